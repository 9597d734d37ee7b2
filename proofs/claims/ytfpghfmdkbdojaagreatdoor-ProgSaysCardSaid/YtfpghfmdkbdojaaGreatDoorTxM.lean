/-
  A tree's text, its normal form, and that the normal form does the same: plain laws.
  Nodes of which all but some roots are parts of just one: plain laws; what is right in that way has no fault.
  A forest of one tree that is a deed has no fault: plain law.
  What is read has just the text that was read, and is one tree of right nodes: plain law.
  A tree's text is read as the tree's normal form, where there is room: plain law.
  What Read takes and gives, by texts of trees: plain law.
-/
import Derived.Test.YtfpghfmdkbdojaaGreatDoorPgTree
import Derived.Test.YtfpghfmdkbdojaaGreatDoorRdL
import Derived.Test.YtfpghfmdkbdojaaGreatDoorPgFlat
import Derived.Lib.ItoaMem
import Derived.Test.YtfpghfmdkbdojaaGreatDoorRdM
import Derived.Test.YtfpghfmdkbdojaaGreatDoorRunL
namespace Go.Proofs.YtfpghfmdkbdojaaGreatDoor
set_option linter.unusedVariables false

def opC (k : Nat) : UInt8 := if k = 2 then 43 else if k = 3 then 60 else 61
def nmC (n : Nat) : UInt8 := UInt8.ofNat (97 + n)
def Ex.text : Ex → List UInt8
  | num n => 35 :: Lib.itoa n
  | var n => [nmC n]
  | op k a b => opC k :: (a.text ++ b.text)
def St.text : St → List UInt8
  | skip => []
  | set n e => nmC n :: 61 :: (e.text ++ [59])
  | both a b => a.text ++ b.text
  | ite e a b => 63 :: (e.text ++ 123 :: (a.text ++ 125 :: 123 :: (b.text ++ [125])))
  | loop e a => 64 :: (e.text ++ 123 :: (a.text ++ [125]))
/-- Deeds one behind the other. -/
def seqS : List St → St
  | [] => .skip
  | [x] => x
  | x :: y :: l => .both x (seqS (y :: l))
def St.items : St → List St
  | skip => []
  | set n e => [.set n e]
  | both a b => a.items ++ b.items
  | ite e a b => [.ite e (seqS a.items) (seqS b.items)]
  | loop e a => [.loop e (seqS a.items)]
def St.norm (s : St) : St := seqS s.items
def runL : List St → List Nat → Nat → Option (List Nat × Nat)
  | [], v, n => some (v, n)
  | x :: l, v, n => match x.run v n with
    | none => none
    | some (v', n') => runL l v' n'
theorem run_seqS : ∀ (l : List St) (v : List Nat) (n : Nat), (seqS l).run v n = runL l v n
  | [], v, n => rfl
  | [x], v, n => by
    show x.run v n = runL [x] v n
    rw [runL]
    cases x.run v n with
    | none => rfl
    | some p => rfl
  | x :: y :: l, v, n => by
    show (St.both x (seqS (y :: l))).run v n = _
    rw [St.run, runL]
    cases x.run v n with
    | none => rfl
    | some p => exact run_seqS (y :: l) p.1 p.2
theorem runL_append : ∀ (l m : List St) (v : List Nat) (n : Nat), runL (l ++ m) v n = match runL l v n with
    | none => none
    | some (v', n') => runL m v' n'
  | [], m, v, n => rfl
  | x :: l, m, v, n => by
    rw [List.cons_append, runL, runL]
    cases x.run v n with
    | none => rfl
    | some p => exact runL_append l m p.1 p.2
theorem runL_one (x : St) (v : List Nat) (n : Nat) : runL [x] v n = x.run v n := (run_seqS [x] v n).symm
theorem spin_congr {c : List Nat → Nat} {f g : List Nat → Nat → Option (List Nat × Nat)} (h : ∀ v n, f v n = g v n) : ∀ k v n, spin c f k v n = spin c g k v n := by
  have : f = g := funext fun v => funext fun n => h v n
  rw [this]; intros; rfl
theorem runL_items (s : St) : ∀ (v : List Nat) (n : Nat), runL s.items v n = s.run v n := by
  induction s with
  | skip => intro v n; rfl
  | set x e => intro v n; exact runL_one _ v n
  | both a b iha ihb =>
    intro v n
    rw [St.items, runL_append, iha, St.run]
    cases a.run v n with
    | none => rfl
    | some p => exact ihb p.1 p.2
  | ite e a b iha ihb =>
    intro v n
    rw [St.items, runL_one, St.run, St.run, run_seqS, run_seqS, iha, ihb]
  | loop e a iha =>
    intro v n
    rw [St.items, runL_one, St.run, St.run]
    exact spin_congr (fun v n => by rw [run_seqS, iha]) _ _ _
theorem run_norm (s : St) (v : List Nat) (n : Nat) : s.norm.run v n = s.run v n := by rw [St.norm, run_seqS, runL_items]
def textL : List St → List UInt8
  | [] => []
  | x :: l => x.text ++ textL l
theorem textL_append : ∀ l m : List St, textL (l ++ m) = textL l ++ textL m
  | [], m => rfl
  | x :: l, m => by rw [List.cons_append, textL, textL, textL_append l m, List.append_assoc]
theorem text_seqS : ∀ l : List St, (seqS l).text = textL l
  | [] => rfl
  | [x] => (List.append_nil _).symm
  | x :: y :: l => by
    show (St.both x (seqS (y :: l))).text = _
    rw [St.text, text_seqS (y :: l)]; rfl
theorem text_one (x : St) : textL [x] = x.text := List.append_nil _
theorem textL_items (s : St) : textL s.items = s.text := by
  induction s with
  | skip => rfl
  | set x e => exact text_one _
  | both a b iha ihb => rw [St.items, textL_append, iha, ihb, St.text]
  | ite e a b iha ihb => rw [St.items, text_one, St.text, St.text, text_seqS, text_seqS, iha, ihb]
  | loop e a iha => rw [St.items, text_one, St.text, St.text, text_seqS, iha]
theorem text_norm (s : St) : s.norm.text = s.text := by rw [St.norm, text_seqS, textL_items]
theorem opC_of {c : UInt8} {k : Nat} (h : opOf c = some k) : opC k = c ∧ 2 ≤ k ∧ k ≤ 4 := by
  unfold opOf at h
  repeat' split at h
  · cases h; subst_vars; exact ⟨rfl, by decide, by decide⟩
  · cases h; subst_vars; exact ⟨rfl, by decide, by decide⟩
  · cases h; subst_vars; exact ⟨rfl, by decide, by decide⟩
  · cases h
theorem nmC_of {c : UInt8} {n : Nat} (h : nameOf c = some n) : nmC n = c ∧ n < 6 := by
  unfold nameOf at h
  split at h
  · rename_i hc
    cases h
    refine ⟨?_, by omega⟩
    unfold nmC
    apply UInt8.toNat_inj.1
    rw [UInt8.toNat_ofNat']
    omega
  · cases h
theorem opOf_opC {k : Nat} (h : 2 ≤ k) (h4 : k ≤ 4) : opOf (opC k) = some k := by
  rcases (by omega : k = 2 ∨ k = 3 ∨ k = 4) with rfl | rfl | rfl <;> rfl
theorem nmC_is {n : Nat} (h : n < 6) : nameOf (nmC n) = some n ∧ opOf (nmC n) = none ∧ nmC n ≠ 35 ∧ nmC n ≠ 63 ∧ nmC n ≠ 64 ∧ nmC n ≠ 125 := by
  rcases (by omega : n = 0 ∨ n = 1 ∨ n = 2 ∨ n = 3 ∨ n = 4 ∨ n = 5) with rfl | rfl | rfl | rfl | rfl | rfl <;> decide
theorem numOf_of {d : List UInt8} {n : Nat} (h : numOf d = some n) : d = Lib.itoa n ∧ n ≤ 999999 := by
  unfold numOf at h
  split at h
  · split at h
    · rename_i v hv hc
      cases h
      have : ((v.toNat : Nat) : Int) = v := by omega
      rw [this]
      exact ⟨hc.2.2.symm, by omega⟩
    · cases h
  · cases h
end Go.Proofs.YtfpghfmdkbdojaaGreatDoor

namespace Go.Proofs.YtfpghfmdkbdojaaGreatDoor
set_option linter.unusedVariables false

theorem nd_ext {P t : List Int} {i k : Nat} (h : i * 5 + k < P.length) : nd (P ++ t) i k = nd P i k := by
  unfold nd
  rw [List.getD_eq_getElem?_getD, List.getD_eq_getElem?_getD, List.getElem?_append_left h]
theorem partsOf_ext {P t : List Int} {i : Nat} (h : i * 5 + 5 ≤ P.length) : partsOf (P ++ t) i = partsOf P i := by
  unfold partsOf
  rw [nd_ext (by omega), nd_ext (by omega), nd_ext (by omega), nd_ext (by omega)]
theorem NodeOk.ext {P t : List Int} {i : Nat} (h : NodeOk P i) (hl : i * 5 + 5 ≤ P.length) : NodeOk (P ++ t) i := by
  refine ⟨?_, ?_, ?_, ?_⟩
  · rw [nd_ext (by omega)]; exact h.kind
  · rw [nd_ext (by omega), nd_ext (by omega)]; exact h.num
  · rw [nd_ext (by omega), nd_ext (by omega)]; exact h.var
  · intro k a ha
    rw [partsOf_ext hl] at ha
    have := h.parts k a ha
    refine ⟨this.1, ?_⟩
    rw [nd_ext (by omega), nd_ext (by omega)]
    exact this.2
theorem IsEx.ext {P t : List Int} {i : Nat} {e : Ex} (h : IsEx P i e) : i * 5 + 5 ≤ P.length → IsEx (P ++ t) i e := by
  induction h with
  | num h0 h1 h2 => intro hl; exact .num (by rw [nd_ext (by omega)]; exact h0) (by rw [nd_ext (by omega)]; exact h1) h2
  | var h0 h1 h2 => intro hl; exact .var (by rw [nd_ext (by omega)]; exact h0) (by rw [nd_ext (by omega)]; exact h1) h2
  | op h1 h2 h0 ha hb la lb _ _ iha ihb =>
    intro hl
    exact .op h1 h2 (by rw [nd_ext (by omega)]; exact h0) (by rw [nd_ext (by omega)]; exact ha) (by rw [nd_ext (by omega)]; exact hb) la lb (iha (by omega)) (ihb (by omega))
theorem IsSt.ext {P t : List Int} {i : Nat} {s : St} (h : IsSt P i s) : i * 5 + 5 ≤ P.length → IsSt (P ++ t) i s := by
  induction h with
  | skip h0 => intro hl; exact .skip (by rw [nd_ext (by omega)]; exact h0)
  | set h0 h1 hn h2 la he =>
    intro hl
    exact .set (by rw [nd_ext (by omega)]; exact h0) (by rw [nd_ext (by omega)]; exact h1) hn (by rw [nd_ext (by omega)]; exact h2) la (he.ext (by omega))
  | both h0 ha hb la lb _ _ iha ihb =>
    intro hl
    exact .both (by rw [nd_ext (by omega)]; exact h0) (by rw [nd_ext (by omega)]; exact ha) (by rw [nd_ext (by omega)]; exact hb) la lb (iha (by omega)) (ihb (by omega))
  | ite h0 ha hb hc la lb lc he _ _ ihb ihc =>
    intro hl
    exact .ite (by rw [nd_ext (by omega)]; exact h0) (by rw [nd_ext (by omega)]; exact ha) (by rw [nd_ext (by omega)]; exact hb) (by rw [nd_ext (by omega)]; exact hc) la lb lc (he.ext (by omega)) (ihb (by omega)) (ihc (by omega))
  | loop h0 ha hb la lb he _ ihb =>
    intro hl
    exact .loop (by rw [nd_ext (by omega)]; exact h0) (by rw [nd_ext (by omega)]; exact ha) (by rw [nd_ext (by omega)]; exact hb) la lb (he.ext (by omega)) (ihb (by omega))
theorem IsEx.kind {P : List Int} {i : Nat} {e : Ex} (h : IsEx P i e) : nd P i 0 < 5 := by
  cases h with
  | num h0 => omega
  | var h0 => omega
  | op _ _ h0 => omega
theorem IsSt.kind {P : List Int} {i : Nat} {s : St} (h : IsSt P i s) : 5 ≤ nd P i 0 := by
  cases h <;> omega
/-- The parts of the nodes from b and before e, in order. -/
def ps (P : List Int) (b e : Nat) : List Int := (List.range' b (e - b)).flatMap (partsOf P)
def rng (b e : Nat) : List Int := (List.range' b (e - b)).map fun i : Nat => (i : Int)
theorem range'_split {b m e : Nat} (h1 : b ≤ m) (h2 : m ≤ e) : List.range' b (e - b) = List.range' b (m - b) ++ List.range' m (e - m) := by
  have := List.range'_append_1 (s := b) (m := m - b) (n := e - m)
  rw [show b + (m - b) = m by omega, show m - b + (e - m) = e - b by omega] at this
  exact this.symm
theorem ps_split {P : List Int} {b m e : Nat} (h1 : b ≤ m) (h2 : m ≤ e) : ps P b e = ps P b m ++ ps P m e := by
  unfold ps; rw [range'_split h1 h2, List.flatMap_append]
theorem rng_split {b m e : Nat} (h1 : b ≤ m) (h2 : m ≤ e) : rng b e = rng b m ++ rng m e := by
  unfold rng; rw [range'_split h1 h2, List.map_append]
theorem ps_one (P : List Int) (e : Nat) : ps P e (e + 1) = partsOf P e := by
  unfold ps; rw [show e + 1 - e = 1 by omega]; simp
theorem rng_one (e : Nat) : rng e (e + 1) = [(e : Int)] := by
  unfold rng; rw [show e + 1 - e = 1 by omega]; rfl
theorem ps_self (P : List Int) (e : Nat) : ps P e e = [] := by unfold ps; rw [Nat.sub_self]; rfl
theorem rng_self (e : Nat) : rng e e = [] := by unfold rng; rw [Nat.sub_self]; rfl
theorem ps_ext {P t : List Int} {b e : Nat} (h : e * 5 ≤ P.length) : ps (P ++ t) b e = ps P b e := by
  unfold ps
  rw [List.flatMap_def, List.flatMap_def]
  congr 1
  apply List.map_congr_left
  intro i hi
  rw [List.mem_range'_1] at hi
  exact partsOf_ext (by omega)
/-- The nodes from b and before e are right, and each but the roots is a part of just one of them. -/
structure Forest (P : List Int) (b e : Nat) (rs : List Int) : Prop where
  le : b ≤ e
  len : e * 5 ≤ P.length
  ok : ∀ j, b ≤ j → j < e → NodeOk P j
  perm : (ps P b e ++ rs).Perm (rng b e)
theorem Forest.ext {P : List Int} {b e : Nat} {rs : List Int} (h : Forest P b e rs) (t : List Int) : Forest (P ++ t) b e rs where
  le := h.le
  len := by rw [List.length_append]; have := h.len; omega
  ok j h1 h2 := (h.ok j h1 h2).ext (by have := h.len; omega)
  perm := by rw [ps_ext h.len]; exact h.perm
theorem Forest.nil {P : List Int} {e : Nat} (h : e * 5 ≤ P.length) : Forest P e e [] where
  le := Nat.le_refl _
  len := h
  ok j h1 h2 := by omega
  perm := by rw [ps_self, rng_self]; exact .refl _
theorem Forest.append {P : List Int} {b m e : Nat} {rs rs' : List Int} (h : Forest P b m rs) (g : Forest P m e rs') : Forest P b e (rs ++ rs') where
  le := Nat.le_trans h.le g.le
  len := g.len
  ok j h1 h2 := by
    rcases Nat.lt_or_ge j m with hj | hj
    · exact h.ok j h1 hj
    · exact g.ok j hj h2
  perm := by
    rw [ps_split h.le g.le, rng_split h.le g.le]
    refine List.Perm.trans ?_ (h.perm.append g.perm)
    rw [List.append_assoc, List.append_assoc]
    refine List.Perm.append_left _ ?_
    rw [← List.append_assoc, ← List.append_assoc]
    exact List.Perm.append_right _ List.perm_append_comm
theorem Forest.node {P : List Int} {b e : Nat} {rs : List Int} (h : Forest P b e rs) {t : List Int} (ht : t.length = 5) (hl : P.length = e * 5) (hp : partsOf (P ++ t) e = rs) (hn : NodeOk (P ++ t) e) : Forest (P ++ t) b (e + 1) [(e : Int)] where
  le := by have := h.le; omega
  len := by rw [List.length_append, hl, ht]; omega
  ok j h1 h2 := by
    rcases Nat.lt_or_ge j e with hj | hj
    · exact (h.ext t).ok j h1 hj
    · obtain rfl : j = e := by omega
      exact hn
  perm := by
    rw [ps_split h.le (Nat.le_succ e), rng_split h.le (Nat.le_succ e), ps_one, rng_one, hp]
    exact List.Perm.append_right _ (h.ext t).perm
theorem nd_new {P t : List Int} {e k : Nat} (hl : P.length = e * 5) : nd (P ++ t) e k = t.getD k 0 := by
  unfold nd
  rw [List.getD_eq_getElem?_getD, List.getElem?_append_right (by omega), hl, Nat.add_sub_cancel_left, List.getD_eq_getElem?_getD]
end Go.Proofs.YtfpghfmdkbdojaaGreatDoor

namespace Go.Proofs.YtfpghfmdkbdojaaGreatDoor
set_option linter.unusedVariables false

def marks (u : List Bool) (l : List Int) : List Bool := l.foldl (fun u a => u.set a.toNat true) u
theorem marks_length : ∀ (l : List Int) (u : List Bool), (marks u l).length = u.length
  | [], u => rfl
  | a :: l, u => by
    show (marks (u.set a.toNat true) l).length = _
    rw [marks_length l, List.length_set]
theorem getD_mark (u : List Bool) (a j : Nat) (ha : a < u.length) : (u.set a true).getD j false = true ↔ u.getD j false = true ∨ a = j := by
  rw [List.getD_eq_getElem?_getD, List.getD_eq_getElem?_getD, List.getElem?_set]
  by_cases h : a = j
  · subst h; simp [ha]
  · simp [h]
theorem marks_true : ∀ (l : List Int) (u : List Bool) (j : Nat), (∀ a ∈ l, 0 ≤ a ∧ a < u.length) → ((marks u l).getD j false = true ↔ u.getD j false = true ∨ (j : Int) ∈ l)
  | [], u, j, h => by simp [marks]
  | a :: l, u, j, h => by
    show (marks (u.set a.toNat true) l).getD j false = true ↔ _
    have ha := h a (List.mem_cons_self ..)
    rw [marks_true l _ j (fun b hb => by rw [List.length_set]; exact h b (List.mem_cons_of_mem _ hb)), getD_mark _ _ _ (by omega), List.mem_cons, or_assoc]
    have : a.toNat = j ↔ (j : Int) = a := by omega
    rw [this]
theorem marks_append (u : List Bool) (l m : List Int) : marks u (l ++ m) = marks (marks u l) m := List.foldl_append ..
theorem partsScan_fwd {P : List Int} {i : Nat} : ∀ (l : List Int) (k : Nat) (u : List Bool), i ≤ u.length → (∀ (j : Nat) (a : Int), l[j]? = some a → (0 ≤ a ∧ a < i) ∧ decide (nd P a.toNat 0 < 5) = askB (nd P i 0) (k + j)) → l.Nodup → (∀ a ∈ l, u.getD a.toNat false = false) → partsScan P i l k u = (0, marks u l)
  | [], k, u, _, _, _, _ => rfl
  | a :: l, k, u, hi, h, hn, hu => by
    have h0 := h 0 a rfl
    have hc : partCode P i u k a = 0 := by
      unfold partCode
      rw [if_neg (fun e => e h0.1), if_neg]
      rintro (e | e)
      · rw [hu a (List.mem_cons_self ..)] at e; cases e
      · exact e h0.2
    rw [partsScan, if_pos hc, partsScan_fwd l (k + 1) _ (by rw [List.length_set]; exact hi)]
    · rfl
    · intro j b hb
      have := h (j + 1) b hb
      rwa [show k + (j + 1) = k + 1 + j by omega] at this
    · exact (List.nodup_cons.1 hn).2
    · intro b hb
      have hne : a ≠ b := fun e => (List.nodup_cons.1 hn).1 (e ▸ hb)
      obtain ⟨j, hj⟩ := List.getElem?_of_mem hb
      have hb0 := (h (j + 1) b hj).1
      have hf := hu b (List.mem_cons_of_mem _ hb)
      cases hx : (u.set a.toNat true).getD b.toNat false with
      | false => rfl
      | true =>
        rcases (getD_mark _ _ _ (by omega)).1 hx with e | e
        · rw [hf] at e; cases e
        · omega
theorem parts_low {P : List Int} {i : Nat} (h : NodeOk P i) {a : Int} (ha : a ∈ partsOf P i) : 0 ≤ a ∧ a < i := by
  obtain ⟨k, hk⟩ := List.getElem?_of_mem ha
  exact (h.parts k a hk).1
theorem headBad_not {P : List Int} {i : Nat} (h : NodeOk P i) : ¬ headBad P i := by
  rintro (e | ⟨e0, e⟩ | ⟨e0, e⟩)
  · exact e h.kind
  · exact e (h.num e0)
  · exact e (h.var e0)
theorem nodesScan_fwd {P : List Int} : ∀ (m i : Nat) (u : List Bool), (∀ j, i ≤ j → j < i + m → NodeOk P j) → (ps P i (i + m)).Nodup → (∀ a ∈ ps P i (i + m), u.getD a.toNat false = false) → i + m ≤ u.length → nodesScan P m i u = (0, marks u (ps P i (i + m)))
  | 0, i, u, _, _, _, _ => by rw [Nat.add_zero, ps_self]; rfl
  | m + 1, i, u, hok, hn, hu, hl => by
    have hi := hok i (Nat.le_refl _) (by omega)
    have hs : ps P i (i + (m + 1)) = partsOf P i ++ ps P (i + 1) (i + 1 + m) := by
      rw [ps_split (Nat.le_succ i) (by omega : i + 1 ≤ i + (m + 1)), ps_one, show i + (m + 1) = i + 1 + m by omega]
    rw [hs] at hn hu ⊢
    have hn' := List.nodup_append.1 hn
    have h1 : nodeScan P i u = (0, marks u (partsOf P i)) := by
      unfold nodeScan
      rw [if_neg (headBad_not hi)]
      refine partsScan_fwd _ 0 u (by omega) (fun j a ha => ?_) hn'.1 (fun a ha => hu a (List.mem_append_left _ ha))
      rw [Nat.zero_add]; exact hi.parts j a ha
    rw [nodesScan, h1, if_pos rfl, marks_append]
    refine nodesScan_fwd m (i + 1) _ (fun j h1 h2 => hok j (by omega) (by omega)) hn'.2.1 (fun a ha => ?_) (by rw [marks_length]; omega)
    have ha0 : 0 ≤ a := by
      unfold ps at ha
      rw [List.mem_flatMap] at ha
      obtain ⟨j, hj, ha⟩ := ha
      rw [List.mem_range'_1] at hj
      exact (parts_low (hok j (by omega) (by omega)) ha).1
    cases hx : (marks u (partsOf P i)).getD a.toNat false with
    | false => rfl
    | true =>
      rcases (marks_true _ _ _ (fun b hb => by have := parts_low hi hb; omega)).1 hx with e | e
      · rw [hu a (List.mem_append_right _ ha)] at e; cases e
      · rw [show ((a.toNat : Nat) : Int) = a by omega] at e
        exact absurd rfl (hn'.2.2 a e a ha)
theorem rng_nodup (b e : Nat) : (rng b e).Nodup := by
  unfold rng
  refine List.Pairwise.map _ ?_ (List.nodup_range' (step := 1))
  intro x y h e
  exact h (by omega)
theorem mem_rng {b e j : Nat} : (j : Int) ∈ rng b e ↔ b ≤ j ∧ j < e := by
  unfold rng
  rw [List.mem_map]
  constructor
  · rintro ⟨x, hx, e⟩
    rw [List.mem_range'_1] at hx
    omega
  · intro h
    exact ⟨j, by rw [List.mem_range'_1]; omega, rfl⟩
theorem Forest.code {P : List Int} {n : Nat} (h : Forest P 0 (n + 1) [(n : Int)]) (hn : n < 80) (hk : 5 ≤ nd P n 0) : progCode P (n + 1) = 0 := by
  have hnd := (h.perm.nodup_iff).2 (rng_nodup 0 (n + 1))
  have hn' := List.nodup_append.1 hnd
  have hs := nodesScan_fwd (P := P) (n + 1) 0 (List.replicate (n + 1) false) (fun j h1 h2 => h.ok j h1 (by omega)) (by rw [Nat.zero_add]; exact hn'.1) (fun a _ => by
    rw [List.getD_eq_getElem?_getD, List.getElem?_replicate]
    split <;> rfl) (by simp)
  rw [Nat.zero_add] at hs
  unfold progCode
  rw [if_neg (by omega), if_neg (by omega), hs, if_pos rfl]
  unfold endCode
  rw [if_neg]
  rintro (⟨j, hj, e⟩ | e)
  · have hm : (j : Int) ∈ ps P 0 (n + 1) ++ [(n : Int)] := h.perm.mem_iff.2 (mem_rng.2 ⟨Nat.zero_le _, by omega⟩)
    rw [List.mem_append, List.mem_singleton] at hm
    have hm : (j : Int) ∈ ps P 0 (n + 1) := hm.resolve_right (by omega)
    have := (marks_true (ps P 0 (n + 1)) (List.replicate (n + 1) false) j (fun a ha => by
      unfold ps at ha
      rw [List.mem_flatMap] at ha
      obtain ⟨q, hq, ha⟩ := ha
      rw [List.mem_range'_1] at hq
      have := parts_low (h.ok q (by omega) (by omega)) ha
      rw [List.length_replicate]; omega)).2 (.inr hm)
    rw [this] at e; cases e
  · rw [Nat.add_sub_cancel] at e; omega
end Go.Proofs.YtfpghfmdkbdojaaGreatDoor

namespace Go.Proofs.YtfpghfmdkbdojaaGreatDoor
set_option linter.unusedVariables false

theorem andThen_inv {x : PR} {f : Nat → List UInt8 → List Int → PR} {i : Nat} {l : List UInt8} {o : List Int} (h : x.andThen f = .good i l o) : ∃ a l1 o1, x = .good a l1 o1 ∧ f a l1 o1 = .good i l o := by
  cases x with
  | bad e => cases h
  | good a l1 o1 => exact ⟨a, l1, o1, rfl, h⟩
theorem pWant_inv {c : UInt8} {l : List UInt8} {o : List Int} {f : List UInt8 → List Int → PR} {i : Nat} {l' : List UInt8} {o' : List Int} (h : pWant c l o f = .good i l' o') : ∃ r, l = c :: r ∧ f r o = .good i l' o' := by
  cases l with
  | nil => cases h
  | cons x r =>
    rw [pWant] at h
    split at h
    · rename_i e; subst e; exact ⟨r, rfl, h⟩
    · cases h
theorem mk5_inv {l : List UInt8} {o : List Int} {k n a b c : Int} {i : Nat} {l' : List UInt8} {o' : List Int} (h : mk5 l o k n a b c = .good i l' o') : l' = l ∧ i = o.length / 5 ∧ o' = o ++ [k, n, a, b, c] := by
  unfold mk5 at h
  split at h
  · cases h
  · injection h with h1 h2 h3
    exact ⟨h2.symm, h1.symm, h3.symm⟩
/-- Nodes were added behind o: one tree, whose root is the last. -/
structure Got (o : List Int) (b i : Nat) (o' : List Int) : Prop where
  ext : ∃ t, o' = o ++ t
  len : o'.length = (i + 1) * 5
  low : b ≤ i
  forest : Forest o' b (i + 1) [(i : Int)]
theorem Got.to {o o' o2 : List Int} {b i : Nat} {e : Nat} {rs : List Int} (h : Forest o b e rs) (g : Got o e i o') : Forest o' b (i + 1) (rs ++ [(i : Int)]) := by
  obtain ⟨t, rfl⟩ := g.ext
  exact (h.ext t).append g.forest
theorem Got.trans {o o1 o2 : List Int} (h : ∃ t, o1 = o ++ t) (g : ∃ t, o2 = o1 ++ t) : ∃ t, o2 = o ++ t := by
  obtain ⟨t, rfl⟩ := h
  obtain ⟨u, rfl⟩ := g
  exact ⟨t ++ u, by rw [List.append_assoc]⟩
/-- A node behind a forest whose roots are its parts. -/
theorem got_node {o o1 : List Int} {b e : Nat} {rs : List Int} {k n a c d : Int} (hx : ∃ t, o1 = o ++ t) (h : Forest o1 b e rs) (hl : o1.length = e * 5) (hp : partsL k a c d = rs) (hk : 0 ≤ k ∧ k ≤ 9) (hn : k = 0 → 0 ≤ n ∧ n ≤ 999999) (hv : k = 1 ∨ k = 6 → 0 ≤ n ∧ n ≤ 5)
    (hq : ∀ (q : Nat) (x : Int), rs[q]? = some x → (0 ≤ x ∧ x < e) ∧ decide (nd o1 x.toNat 0 < 5) = askB k q) : Got o b e (o1 ++ [k, n, a, c, d]) := by
  have h0 : nd (o1 ++ [k, n, a, c, d]) e 0 = k := nd_new hl
  have h1 : nd (o1 ++ [k, n, a, c, d]) e 1 = n := nd_new hl
  have h2 : nd (o1 ++ [k, n, a, c, d]) e 2 = a := nd_new hl
  have h3 : nd (o1 ++ [k, n, a, c, d]) e 3 = c := nd_new hl
  have h4 : nd (o1 ++ [k, n, a, c, d]) e 4 = d := nd_new hl
  have hps : partsOf (o1 ++ [k, n, a, c, d]) e = rs := by unfold partsOf; rw [h0, h2, h3, h4, hp]
  refine ⟨Got.trans hx ⟨_, rfl⟩, by rw [List.length_append, hl]; show e * 5 + 5 = _; omega, h.le, h.node rfl hl hps ⟨?_, ?_, ?_, ?_⟩⟩
  · rw [h0]; exact hk
  · rw [h0, h1]; exact hn
  · rw [h0, h1]; exact hv
  · intro q x hx
    rw [hps] at hx
    have := hq q x hx
    refine ⟨this.1, ?_⟩
    rw [h0, nd_ext (by omega)]
    exact this.2
section
variable {o o1 : List Int} {e : Nat} {k n a c d : Int}
theorem new0 (hl : o1.length = e * 5) : nd (o1 ++ [k, n, a, c, d]) e 0 = k := nd_new hl
theorem new1 (hl : o1.length = e * 5) : nd (o1 ++ [k, n, a, c, d]) e 1 = n := nd_new hl
theorem new2 (hl : o1.length = e * 5) : nd (o1 ++ [k, n, a, c, d]) e 2 = a := nd_new hl
theorem new3 (hl : o1.length = e * 5) : nd (o1 ++ [k, n, a, c, d]) e 3 = c := nd_new hl
theorem new4 (hl : o1.length = e * 5) : nd (o1 ++ [k, n, a, c, d]) e 4 = d := nd_new hl
end
def ValSound (V : List UInt8 → List Int → PR) : Prop := ∀ l o b i l' o', o.length = b * 5 → V l o = .good i l' o' → Got o b i o' ∧ ∃ e, IsEx o' i e ∧ l = e.text ++ l'
def ListSound (L : List UInt8 → List Int → PR) : Prop := ∀ l o b i l' o', o.length = b * 5 → L l o = .good i l' o' → Got o b i o' ∧ ∃ s, IsSt o' i s ∧ l = s.text ++ l'
theorem IsEx.later {P : List Int} {i : Nat} {e : Ex} (h : IsEx P i e) {Q : List Int} (hx : ∃ t, Q = P ++ t) (hl : i * 5 + 5 ≤ P.length) : IsEx Q i e := by
  obtain ⟨t, rfl⟩ := hx; exact h.ext hl
theorem IsSt.later {P : List Int} {i : Nat} {s : St} (h : IsSt P i s) {Q : List Int} (hx : ∃ t, Q = P ++ t) (hl : i * 5 + 5 ≤ P.length) : IsSt Q i s := by
  obtain ⟨t, rfl⟩ := hx; exact h.ext hl
theorem pValue_sound : ∀ f, ValSound (pValue f) := by
  intro f
  induction f with
  | zero => intro l o b i l' o' _ h; cases h
  | succ f ih =>
    intro l o b i l' o' hl h
    cases l with
    | nil => cases h
    | cons x r =>
      rw [pValue] at h
      cases ho : opOf x with
      | some k =>
        rw [ho] at h
        obtain ⟨a, l1, o1, h1, h⟩ := andThen_inv h
        obtain ⟨c, l2, o2, h2, h⟩ := andThen_inv h
        obtain ⟨rfl, rfl, rfl⟩ := mk5_inv h
        obtain ⟨g1, e1, t1, rfl⟩ := ih _ _ b _ _ _ hl h1
        obtain ⟨g2, e2, t2, rfl⟩ := ih _ _ (a + 1) _ _ _ g1.len h2
        obtain ⟨rfl, hk2, hk4⟩ := opC_of ho
        have t1' := t1.later g2.ext (by rw [g1.len]; omega)
        have hac : a < c := by have := g2.low; omega
        rw [g2.len, Nat.mul_div_cancel _ (by decide : 0 < 5)]
        refine ⟨got_node (rs := [(a : Int), (c : Int)]) (Got.trans g1.ext g2.ext) (Got.to (o2 := o) g1.forest g2) g2.len ?_ (by omega) (by omega) (by omega) ?_, .op k e1 e2, ?_, ?_⟩
        · unfold partsL; rw [if_neg (by omega), if_neg (by omega), if_pos (by omega)]
        · intro q y hy
          match q, hy with
          | 0, hy => cases hy; exact ⟨by omega, by rw [Int.toNat_natCast, decide_eq_true t1'.kind]; unfold askB; simp; omega⟩
          | 1, hy => cases hy; exact ⟨by omega, by rw [Int.toNat_natCast, decide_eq_true t2.kind]; unfold askB; simp; omega⟩
        · exact .op hk2 hk4 (new0 g2.len) (new2 g2.len) (new3 g2.len) (by omega) (by omega) (t1'.ext (by rw [g2.len]; omega)) (t2.ext (by rw [g2.len]; omega))
        · rw [Ex.text, List.cons_append, List.append_assoc]
      | none =>
        rw [ho] at h
        dsimp only at h
        by_cases h35 : x = 35
        · rw [if_pos h35] at h
          cases hn : numOf (r.takeWhile isDig) with
          | none => rw [hn] at h; cases h
          | some n =>
            rw [hn] at h
            obtain ⟨rfl, rfl, rfl⟩ := mk5_inv h
            obtain ⟨hd, hle⟩ := numOf_of hn
            rw [hl, Nat.mul_div_cancel _ (by decide : 0 < 5)]
            refine ⟨got_node (rs := []) ⟨[], by simp⟩ (Forest.nil (by omega)) hl rfl (by omega) (by omega) (by omega) (fun q y hy => by simp at hy), .num n, .num (new0 hl) (new1 hl) hle, ?_⟩
            rw [Ex.text, ← hd, h35, List.cons_append, List.takeWhile_append_dropWhile]
        · rw [if_neg h35] at h
          cases hn : nameOf x with
          | none => rw [hn] at h; cases h
          | some n =>
            rw [hn] at h
            obtain ⟨rfl, rfl, rfl⟩ := mk5_inv h
            obtain ⟨hd, hle⟩ := nmC_of hn
            rw [hl, Nat.mul_div_cancel _ (by decide : 0 < 5)]
            refine ⟨got_node (rs := []) ⟨[], by simp⟩ (Forest.nil (by omega)) hl rfl (by omega) (by omega) (by omega) (fun q y hy => by simp at hy), .var n, .var (new0 hl) (new1 hl) hle, ?_⟩
            rw [Ex.text, hd]; rfl
theorem pBlock_sound {L : List UInt8 → List Int → PR} (hL : ListSound L) {l : List UInt8} {o : List Int} {b i : Nat} {l' : List UInt8} {o' : List Int} (hl : o.length = b * 5) (h : pBlock L l o = .good i l' o') : Got o b i o' ∧ ∃ s, IsSt o' i s ∧ l = 123 :: (s.text ++ 125 :: l') := by
  unfold pBlock at h
  obtain ⟨r, rfl, h⟩ := pWant_inv h
  obtain ⟨a, l1, o1, h1, h⟩ := andThen_inv h
  obtain ⟨r2, rfl, h⟩ := pWant_inv h
  injection h with e1 e2 e3
  subst e1; subst e2; subst e3
  obtain ⟨g, s, hs, rfl⟩ := hL _ _ b _ _ _ hl h1
  exact ⟨g, s, hs, rfl⟩
theorem pOne_sound {V L : List UInt8 → List Int → PR} (hV : ValSound V) (hL : ListSound L) : ListSound (pOne V L) := by
  intro l o b i l' o' hl h
  cases l with
  | nil => cases h
  | cons x r =>
    rw [pOne] at h
    by_cases h63 : x = 63
    · rw [if_pos h63] at h
      obtain ⟨a, l1, o1, h1, h⟩ := andThen_inv h
      obtain ⟨c, l2, o2, h2, h⟩ := andThen_inv h
      obtain ⟨d, l3, o3, h3, h⟩ := andThen_inv h
      obtain ⟨rfl, rfl, rfl⟩ := mk5_inv h
      obtain ⟨g1, e1, t1, rfl⟩ := hV _ _ b _ _ _ hl h1
      obtain ⟨g2, s2, t2, rfl⟩ := pBlock_sound hL g1.len h2
      obtain ⟨g3, s3, t3, rfl⟩ := pBlock_sound hL g2.len h3
      have hac : a < c := by have := g2.low; omega
      have hcd : c < d := by have := g3.low; omega
      have t1' := t1.later (Got.trans g2.ext g3.ext) (by rw [g1.len]; omega)
      have t2' := t2.later g3.ext (by rw [g2.len]; omega)
      rw [g3.len, Nat.mul_div_cancel _ (by decide : 0 < 5)]
      refine ⟨got_node (rs := [(a : Int), (c : Int), (d : Int)]) (Got.trans (Got.trans g1.ext g2.ext) g3.ext) (Got.to (o2 := o) (Got.to (o2 := o) g1.forest g2) g3) g3.len rfl (by omega) (by omega) (by omega) ?_, .ite e1 s2 s3, ?_, ?_⟩
      · intro q y hy
        match q, hy with
        | 0, hy => cases hy; exact ⟨by omega, by rw [Int.toNat_natCast, decide_eq_true t1'.kind]; decide⟩
        | 1, hy => cases hy; exact ⟨by omega, by rw [Int.toNat_natCast, decide_eq_false (by have := t2'.kind; omega)]; decide⟩
        | 2, hy => cases hy; exact ⟨by omega, by rw [Int.toNat_natCast, decide_eq_false (by have := t3.kind; omega)]; decide⟩
      · exact .ite (new0 g3.len) (new2 g3.len) (new3 g3.len) (new4 g3.len) (by omega) (by omega) (by omega) (t1'.ext (by rw [g3.len]; omega)) (t2'.ext (by rw [g3.len]; omega)) (t3.ext (by rw [g3.len]; omega))
      · rw [h63, St.text]; simp
    · rw [if_neg h63] at h
      by_cases h64 : x = 64
      · rw [if_pos h64] at h
        obtain ⟨a, l1, o1, h1, h⟩ := andThen_inv h
        obtain ⟨c, l2, o2, h2, h⟩ := andThen_inv h
        obtain ⟨rfl, rfl, rfl⟩ := mk5_inv h
        obtain ⟨g1, e1, t1, rfl⟩ := hV _ _ b _ _ _ hl h1
        obtain ⟨g2, s2, t2, rfl⟩ := pBlock_sound hL g1.len h2
        have hac : a < c := by have := g2.low; omega
        have t1' := t1.later g2.ext (by rw [g1.len]; omega)
        rw [g2.len, Nat.mul_div_cancel _ (by decide : 0 < 5)]
        refine ⟨got_node (rs := [(a : Int), (c : Int)]) (Got.trans g1.ext g2.ext) (Got.to (o2 := o) g1.forest g2) g2.len rfl (by omega) (by omega) (by omega) ?_, .loop e1 s2, ?_, ?_⟩
        · intro q y hy
          match q, hy with
          | 0, hy => cases hy; exact ⟨by omega, by rw [Int.toNat_natCast, decide_eq_true t1'.kind]; decide⟩
          | 1, hy => cases hy; exact ⟨by omega, by rw [Int.toNat_natCast, decide_eq_false (by have := t2.kind; omega)]; decide⟩
        · exact .loop (new0 g2.len) (new2 g2.len) (new3 g2.len) (by omega) (by omega) (t1'.ext (by rw [g2.len]; omega)) (t2.ext (by rw [g2.len]; omega))
        · rw [h64, St.text]; simp
      · rw [if_neg h64] at h
        cases hn : nameOf x with
        | none => rw [hn] at h; cases h
        | some n =>
          rw [hn] at h
          obtain ⟨r1, rfl, h⟩ := pWant_inv h
          obtain ⟨a, l1, o1, h1, h⟩ := andThen_inv h
          obtain ⟨r2, rfl, h⟩ := pWant_inv h
          obtain ⟨rfl, rfl, rfl⟩ := mk5_inv h
          obtain ⟨hd, hle⟩ := nmC_of hn
          obtain ⟨g1, e1, t1, rfl⟩ := hV _ _ b _ _ _ hl h1
          rw [g1.len, Nat.mul_div_cancel _ (by decide : 0 < 5)]
          refine ⟨got_node (rs := [(a : Int)]) g1.ext g1.forest g1.len rfl (by omega) (by omega) (by omega) ?_, .set n e1, ?_, ?_⟩
          · intro q y hy
            match q, hy with
            | 0, hy => cases hy; exact ⟨by omega, by rw [Int.toNat_natCast, decide_eq_true t1.kind]; decide⟩
          · exact .set (new0 g1.len) (new1 g1.len) hle (new2 g1.len) (by omega) (t1.ext (by rw [g1.len]; omega))
          · rw [St.text, hd]; simp
theorem pList_sound : ∀ f, ListSound (pList f) := by
  intro f
  induction f with
  | zero => intro l o b i l' o' _ h; cases h
  | succ f ih =>
    intro l o b i l' o' hl h
    rw [pList] at h
    by_cases he : endsL l = true
    · rw [if_pos he] at h
      obtain ⟨rfl, rfl, rfl⟩ := mk5_inv h
      rw [hl, Nat.mul_div_cancel _ (by decide : 0 < 5)]
      exact ⟨got_node (rs := []) ⟨[], by simp⟩ (Forest.nil (by omega)) hl rfl (by omega) (by omega) (by omega) (fun q y hy => by simp at hy), .skip, .skip (new0 hl), rfl⟩
    · rw [if_neg he] at h
      obtain ⟨a, l1, o1, h1, h'⟩ := andThen_inv h
      clear h
      obtain ⟨g1, s1, t1, rfl⟩ := pOne_sound (pValue_sound f) ih _ _ b _ _ _ hl h1
      by_cases he1 : endsL l1 = true
      · rw [if_pos he1] at h'
        injection h' with e1 e2 e3
        subst e1; subst e2; subst e3
        exact ⟨g1, s1, t1, rfl⟩
      · rw [if_neg he1] at h'
        obtain ⟨c, l2, o2, h2, h⟩ := andThen_inv h'
        clear h'
        obtain ⟨rfl, rfl, rfl⟩ := mk5_inv h
        obtain ⟨g2, s2, t2, rfl⟩ := ih _ _ (a + 1) _ _ _ g1.len h2
        have hac : a < c := by have := g2.low; omega
        have t1' := t1.later g2.ext (by rw [g1.len]; omega)
        rw [g2.len, Nat.mul_div_cancel _ (by decide : 0 < 5)]
        refine ⟨got_node (rs := [(a : Int), (c : Int)]) (Got.trans g1.ext g2.ext) (Got.to (o2 := o) g1.forest g2) g2.len rfl (by omega) (by omega) (by omega) ?_, .both s1 s2, ?_, ?_⟩
        · intro q y hy
          match q, hy with
          | 0, hy => cases hy; exact ⟨by omega, by rw [Int.toNat_natCast, decide_eq_false (by have := t1'.kind; omega)]; decide⟩
          | 1, hy => cases hy; exact ⟨by omega, by rw [Int.toNat_natCast, decide_eq_false (by have := t2.kind; omega)]; decide⟩
        · exact .both (new0 g2.len) (new2 g2.len) (new3 g2.len) (by omega) (by omega) (t1'.ext (by rw [g2.len]; omega)) (t2.ext (by rw [g2.len]; omega))
        · rw [St.text, List.append_assoc]
end Go.Proofs.YtfpghfmdkbdojaaGreatDoor

namespace Go.Proofs.YtfpghfmdkbdojaaGreatDoor
set_option linter.unusedVariables false

theorem parse_append : ∀ (l m : List UInt8) (acc : Nat), Lib.parseUint10 acc (l ++ m) = match Lib.parseUint10 acc l with
    | .ok u => Lib.parseUint10 u m
    | e => e
  | [], m, acc => rfl
  | c :: l, m, acc => by
    rw [List.cons_append, Lib.parseUint10, Lib.parseUint10]
    split
    · split
      · rfl
      · split
        · rfl
        · exact parse_append l m _
    · rfl
theorem dig_toNat {k : Nat} (h : k < 10) : (UInt8.ofNat (48 + k)).toNat = 48 + k := by rw [UInt8.toNat_ofNat']; omega
theorem parse_dec (n : Nat) : n ≤ 999999 → Lib.parseUint10 0 (Lib.decDigits n) = .ok n := by
  induction n using Nat.strongRecOn with
  | _ n ih =>
    intro hn
    rw [Lib.decDigits]
    by_cases h : n < 10
    · rw [dif_pos h, Lib.parseUint10, dig_toNat h, if_pos (by omega), if_neg (by omega), if_neg (by omega), Lib.parseUint10]
      congr 1; omega
    · rw [dif_neg h, parse_append, ih (n / 10) (by omega) (by omega)]
      show Lib.parseUint10 (n / 10) [UInt8.ofNat (48 + n % 10)] = _
      rw [Lib.parseUint10, dig_toNat (by omega), if_pos (by omega), if_neg (by omega), if_neg (by omega), Lib.parseUint10]
      congr 1; omega
theorem dec_digs (n : Nat) : ∀ c ∈ Lib.decDigits n, isDig c = true := by
  induction n using Nat.strongRecOn with
  | _ n ih =>
    intro c hc
    rw [Lib.decDigits] at hc
    by_cases h : n < 10
    · rw [dif_pos h, List.mem_singleton] at hc
      subst hc
      unfold isDig; rw [dig_toNat h]; simp; omega
    · rw [dif_neg h, List.mem_append, List.mem_singleton] at hc
      rcases hc with hc | rfl
      · exact ih _ (by omega) c hc
      · unfold isDig; rw [dig_toNat (by omega)]; simp; omega
theorem dec_cons (n : Nat) : ∃ c r, Lib.decDigits n = c :: r := by
  have hl := Lib.decDigits_length n
  cases h : Lib.decDigits n with
  | nil =>
    rw [h] at hl
    rw [Lib.decDigits] at h
    split at h
    · cases h
    · simp at h
  | cons c r => exact ⟨c, r, rfl⟩
theorem numOf_dec {n : Nat} (h : n ≤ 999999) : numOf (Lib.itoa n) = some n := by
  have ha : Lib.atoiAll (Lib.itoa n) = .ok (n : Int) := by
    rw [Lib.itoa_nonneg]
    have hp := parse_dec n h
    obtain ⟨c, r, hc⟩ := dec_cons n
    have hd := dec_digs n c (by rw [hc]; exact List.mem_cons_self ..)
    unfold isDig at hd
    simp only [decide_eq_true_eq] at hd
    rw [hc] at hp ⊢
    unfold Lib.atoiAll
    simp only [if_neg (show ¬ (c.toNat = 43 ∨ c.toNat = 45) by omega)]
    unfold Lib.parseMag
    rw [if_neg (List.cons_ne_nil _ _), hp]
    simp only [if_neg (show ¬ (¬ c.toNat = 45 ∧ 9223372036854775808 ≤ n) by omega), if_neg (show ¬ (c.toNat = 45 ∧ 9223372036854775808 < n) by omega), if_neg (show ¬ c.toNat = 45 by omega)]
  unfold numOf
  rw [ha]
  simp only
  rw [if_pos ⟨by omega, by omega, trivial⟩]
  simp
def NoDig (l : List UInt8) : Prop := ∀ c r, l = c :: r → isDig c = false
theorem take_digs : ∀ (d l : List UInt8), (∀ c ∈ d, isDig c = true) → NoDig l → (d ++ l).takeWhile isDig = d ∧ (d ++ l).dropWhile isDig = l
  | [], l, _, hl => by
    cases l with
    | nil => exact ⟨rfl, rfl⟩
    | cons c r =>
      have := hl c r rfl
      rw [List.nil_append, List.takeWhile_cons, List.dropWhile_cons, this]
      exact ⟨rfl, rfl⟩
  | c :: d, l, hd, hl => by
    have hc := hd c (List.mem_cons_self ..)
    have := take_digs d l (fun x hx => hd x (List.mem_cons_of_mem _ hx)) hl
    rw [List.cons_append, List.takeWhile_cons, List.dropWhile_cons, hc, if_pos rfl, if_pos rfl, this.1, this.2]
    exact ⟨rfl, rfl⟩
theorem opC_nodig {k : Nat} : isDig (opC k) = false := by
  unfold opC
  repeat' split
  all_goals decide
theorem nmC_nodig {n : Nat} (h : n < 6) : isDig (nmC n) = false := by
  rcases (by omega : n = 0 ∨ n = 1 ∨ n = 2 ∨ n = 3 ∨ n = 4 ∨ n = 5) with rfl | rfl | rfl | rfl | rfl | rfl <;> decide
theorem NoDig.text {e : Ex} (h : e.ok) (l : List UInt8) : NoDig (e.text ++ l) := by
  intro c r hc
  cases e with
  | num n => rw [Ex.text, List.cons_append] at hc; injection hc with h1 _; subst h1; decide
  | var n => rw [Ex.text, List.cons_append] at hc; injection hc with h1 _; subst h1; exact nmC_nodig h
  | op k a b => rw [Ex.text, List.cons_append] at hc; injection hc with h1 _; subst h1; exact opC_nodig
theorem NoDig.cons {c : UInt8} (h : isDig c = false) (l : List UInt8) : NoDig (c :: l) := by
  intro x r hx; injection hx with h1 _; subst h1; exact h
theorem mk5_or (l : List UInt8) (o : List Int) (k n a b c : Int) : mk5 l o k n a b c = .bad 4 ∨ mk5 l o k n a b c = .good (o.length / 5) l (o ++ [k, n, a, b, c]) := by
  unfold mk5
  split
  · exact .inl rfl
  · exact .inr rfl
theorem pValue_full : ∀ (f : Nat) (e : Ex) (l : List UInt8) (o : List Int) (b : Nat), e.ok → o.length = b * 5 → NoDig l → e.text.length ≤ f → pValue f (e.text ++ l) o = .bad 4 ∨ ∃ i o', pValue f (e.text ++ l) o = .good i l o' ∧ IsEx o' i e := by
  intro f
  induction f with
  | zero => intro e l o b _ _ _ hf; cases e <;> simp [Ex.text] at hf
  | succ f ih =>
    intro e l o b he hl hd hf
    cases e with
    | num n =>
      rw [Ex.text, List.cons_append, pValue, show opOf 35 = none by decide]
      dsimp only
      have ht := take_digs (Lib.itoa n) l (by rw [Lib.itoa_nonneg]; exact dec_digs n) hd
      rw [if_pos rfl, ht.1, ht.2, numOf_dec he]
      dsimp only
      rcases mk5_or l o 0 n 0 0 0 with h | h
      · exact .inl h
      · rw [h, hl, Nat.mul_div_cancel _ (by decide : 0 < 5)]
        exact .inr ⟨_, _, rfl, .num (new0 hl) (new1 hl) he⟩
    | var n =>
      have hn := nmC_is he
      rw [Ex.text, List.cons_append, List.nil_append, pValue, hn.2.1]
      dsimp only
      rw [if_neg hn.2.2.1, hn.1]
      dsimp only
      rcases mk5_or l o 1 n 0 0 0 with h | h
      · exact .inl h
      · rw [h, hl, Nat.mul_div_cancel _ (by decide : 0 < 5)]
        exact .inr ⟨_, _, rfl, .var (new0 hl) (new1 hl) he⟩
    | op k x y =>
      obtain ⟨hk, hx, hy⟩ := he
      rw [Ex.text, List.length_cons, List.length_append] at hf
      rw [Ex.text, List.cons_append, List.append_assoc, pValue, opOf_opC hk.1 hk.2]
      dsimp only
      rcases ih x (y.text ++ l) o b hx hl (NoDig.text hy l) (by omega) with h1 | ⟨a, o1, h1, t1⟩
      · rw [h1]; exact .inl rfl
      have g1 := (pValue_sound f _ _ b _ _ _ hl h1).1
      rw [h1]
      show (pValue f (y.text ++ l) o1).andThen _ = _ ∨ ∃ i o', (pValue f (y.text ++ l) o1).andThen _ = _ ∧ _
      rcases ih y l o1 (a + 1) hy g1.len hd (by omega) with h2 | ⟨c, o2, h2, t2⟩
      · rw [h2]; exact .inl rfl
      have g2 := (pValue_sound f _ _ (a + 1) _ _ _ g1.len h2).1
      rw [h2]
      show mk5 l o2 k 0 a c 0 = _ ∨ ∃ i o', mk5 l o2 k 0 a c 0 = _ ∧ _
      have hac : a < c := by have := g2.low; omega
      have t1' := t1.later g2.ext (by rw [g1.len]; omega)
      rcases mk5_or l o2 k 0 a c 0 with h | h
      · exact .inl h
      · rw [h, g2.len, Nat.mul_div_cancel _ (by decide : 0 < 5)]
        exact .inr ⟨_, _, rfl, .op hk.1 hk.2 (new0 g2.len) (new2 g2.len) (new3 g2.len) (by omega) (by omega) (t1'.ext (by rw [g2.len]; omega)) (t2.ext (by rw [g2.len]; omega))⟩
/-- A deed of a normal form. -/
inductive Deed : St → Prop where
  | set {n : Nat} {e : Ex} : n < 6 → e.ok → Deed (.set n e)
  | ite {e : Ex} {a b : St} : e.ok → a.ok → b.ok → Deed (.ite e a.norm b.norm)
  | loop {e : Ex} {a : St} : e.ok → a.ok → Deed (.loop e a.norm)
theorem deed_items {s : St} : s.ok → ∀ x ∈ s.items, Deed x := by
  induction s with
  | skip => intro _ x hx; cases hx
  | set n e => intro h x hx; rw [St.items, List.mem_singleton] at hx; subst hx; exact .set h.1 h.2
  | both a b iha ihb =>
    intro h x hx
    rw [St.items, List.mem_append] at hx
    rcases hx with hx | hx
    · exact iha h.1 x hx
    · exact ihb h.2 x hx
  | ite e a b _ _ => intro h x hx; rw [St.items, List.mem_singleton] at hx; subst hx; exact .ite h.1 h.2.1 h.2.2
  | loop e a _ => intro h x hx; rw [St.items, List.mem_singleton] at hx; subst hx; exact .loop h.1 h.2
def ListFull (f : Nat) (L : List UInt8 → List Int → PR) : Prop := ∀ (s : St) (l : List UInt8) (o : List Int) (b : Nat), s.ok → o.length = b * 5 → endsL l = true → s.text.length < f → L (s.text ++ l) o = .bad 4 ∨ ∃ i o', L (s.text ++ l) o = .good i l o' ∧ IsSt o' i s.norm
theorem pBlock_full {f : Nat} {L : List UInt8 → List Int → PR} (hL : ListFull f L) {s : St} {l : List UInt8} {o : List Int} {b : Nat} (hs : s.ok) (hl : o.length = b * 5) (hf : s.text.length < f) :
    pBlock L (123 :: (s.text ++ 125 :: l)) o = .bad 4 ∨ ∃ i o', pBlock L (123 :: (s.text ++ 125 :: l)) o = .good i l o' ∧ IsSt o' i s.norm := by
  unfold pBlock
  rw [pWant, if_pos rfl]
  rcases hL s (125 :: l) o b hs hl rfl hf with h1 | ⟨a, o1, h1, t1⟩
  · rw [h1]; exact .inl rfl
  · rw [h1]
    exact .inr ⟨a, o1, by show pWant 125 (125 :: l) o1 _ = _; rw [pWant, if_pos rfl], t1⟩
theorem pOne_full {f : Nat} {L : List UInt8 → List Int → PR} (hL : ListFull f L) (hS : ListSound L) {x : St} (hx : Deed x) {l : List UInt8} {o : List Int} {b : Nat} (hl : o.length = b * 5) (hf : x.text.length ≤ f) :
    pOne (pValue f) L (x.text ++ l) o = .bad 4 ∨ ∃ i o', pOne (pValue f) L (x.text ++ l) o = .good i l o' ∧ IsSt o' i x := by
  cases hx with
  | @set n e hn he =>
    have hc := nmC_is hn
    rw [St.text] at hf
    simp only [List.length_cons, List.length_append, List.length_nil] at hf
    rw [St.text, List.cons_append, List.cons_append, List.append_assoc, List.cons_append, List.nil_append, pOne, if_neg hc.2.2.2.1, if_neg hc.2.2.2.2.1, hc.1]
    dsimp only
    rw [pWant, if_pos rfl]
    rcases pValue_full f e (59 :: l) o b he hl (NoDig.cons (by decide) _) (by omega) with h1 | ⟨a, o1, h1, t1⟩
    · rw [h1]; exact .inl rfl
    have g1 := (pValue_sound f _ _ b _ _ _ hl h1).1
    rw [h1]
    dsimp only [PR.andThen]
    rw [pWant, if_pos rfl]
    rcases mk5_or l o1 6 n a 0 0 with h | h
    · exact .inl h
    · rw [h, g1.len, Nat.mul_div_cancel _ (by decide : 0 < 5)]
      exact .inr ⟨_, _, rfl, .set (new0 g1.len) (new1 g1.len) hn (new2 g1.len) (by omega) (t1.ext (by rw [g1.len]; omega))⟩
  | @ite e p q he hp hq =>
    rw [St.text, text_norm, text_norm] at hf
    simp only [List.length_cons, List.length_append, List.length_nil] at hf
    have ht : (St.ite e p.norm q.norm).text ++ l = 63 :: (e.text ++ 123 :: (p.text ++ 125 :: 123 :: (q.text ++ 125 :: l))) := by rw [St.text, text_norm, text_norm]; simp
    rw [ht, pOne, if_pos rfl]
    rcases pValue_full f e (123 :: (p.text ++ 125 :: 123 :: (q.text ++ 125 :: l))) o b he hl (NoDig.cons (by decide) _) (by omega) with h1 | ⟨a, o1, h1, t1⟩
    · rw [h1]; exact .inl rfl
    have g1 := (pValue_sound f _ _ b _ _ _ hl h1).1
    rw [h1]
    show (pBlock L (123 :: (p.text ++ 125 :: 123 :: (q.text ++ 125 :: l))) o1).andThen _ = _ ∨ ∃ i o', (pBlock L (123 :: (p.text ++ 125 :: 123 :: (q.text ++ 125 :: l))) o1).andThen _ = _ ∧ _
    rcases pBlock_full hL (l := 123 :: (q.text ++ 125 :: l)) hp g1.len (by omega) with h2 | ⟨c, o2, h2, t2⟩
    · rw [h2]; exact .inl rfl
    have g2 := (pBlock_sound hS g1.len h2).1
    rw [h2]
    show (pBlock L (123 :: (q.text ++ 125 :: l)) o2).andThen _ = _ ∨ ∃ i o', (pBlock L (123 :: (q.text ++ 125 :: l)) o2).andThen _ = _ ∧ _
    rcases pBlock_full hL (l := l) hq g2.len (by omega) with h3 | ⟨d, o3, h3, t3⟩
    · rw [h3]; exact .inl rfl
    have g3 := (pBlock_sound hS g2.len h3).1
    rw [h3]
    show mk5 l o3 8 0 a c d = _ ∨ ∃ i o', mk5 l o3 8 0 a c d = _ ∧ _
    have hac : a < c := by have := g2.low; omega
    have hcd : c < d := by have := g3.low; omega
    have t1' := t1.later (Got.trans g2.ext g3.ext) (by rw [g1.len]; omega)
    have t2' := t2.later g3.ext (by rw [g2.len]; omega)
    rcases mk5_or l o3 8 0 a c d with h | h
    · exact .inl h
    · rw [h, g3.len, Nat.mul_div_cancel _ (by decide : 0 < 5)]
      exact .inr ⟨_, _, rfl, .ite (new0 g3.len) (new2 g3.len) (new3 g3.len) (new4 g3.len) (by omega) (by omega) (by omega) (t1'.ext (by rw [g3.len]; omega)) (t2'.ext (by rw [g3.len]; omega)) (t3.ext (by rw [g3.len]; omega))⟩
  | @loop e p he hp =>
    rw [St.text, text_norm] at hf
    simp only [List.length_cons, List.length_append, List.length_nil] at hf
    have ht : (St.loop e p.norm).text ++ l = 64 :: (e.text ++ 123 :: (p.text ++ 125 :: l)) := by rw [St.text, text_norm]; simp
    rw [ht, pOne, if_neg (by decide), if_pos rfl]
    rcases pValue_full f e (123 :: (p.text ++ 125 :: l)) o b he hl (NoDig.cons (by decide) _) (by omega) with h1 | ⟨a, o1, h1, t1⟩
    · rw [h1]; exact .inl rfl
    have g1 := (pValue_sound f _ _ b _ _ _ hl h1).1
    rw [h1]
    show (pBlock L (123 :: (p.text ++ 125 :: l)) o1).andThen _ = _ ∨ ∃ i o', (pBlock L (123 :: (p.text ++ 125 :: l)) o1).andThen _ = _ ∧ _
    rcases pBlock_full hL (l := l) hp g1.len (by omega) with h2 | ⟨c, o2, h2, t2⟩
    · rw [h2]; exact .inl rfl
    have g2 := (pBlock_sound hS g1.len h2).1
    rw [h2]
    show mk5 l o2 9 0 a c 0 = _ ∨ ∃ i o', mk5 l o2 9 0 a c 0 = _ ∧ _
    have hac : a < c := by have := g2.low; omega
    have t1' := t1.later g2.ext (by rw [g1.len]; omega)
    rcases mk5_or l o2 9 0 a c 0 with h | h
    · exact .inl h
    · rw [h, g2.len, Nat.mul_div_cancel _ (by decide : 0 < 5)]
      exact .inr ⟨_, _, rfl, .loop (new0 g2.len) (new2 g2.len) (new3 g2.len) (by omega) (by omega) (t1'.ext (by rw [g2.len]; omega)) (t2.ext (by rw [g2.len]; omega))⟩
theorem deed_head {x : St} (h : Deed x) (l : List UInt8) : endsL (x.text ++ l) = false ∧ 1 ≤ x.text.length := by
  cases h with
  | @set n e hn he =>
    rw [St.text]
    refine ⟨?_, by simp⟩
    show (nmC n == 125) = false
    have := (nmC_is hn).2.2.2.2.2
    simp [this]
  | ite _ _ _ => rw [St.text]; exact ⟨rfl, by simp⟩
  | loop _ _ => rw [St.text]; exact ⟨rfl, by simp⟩
theorem items_full : ∀ f, ∀ (xs : List St) (l : List UInt8) (o : List Int) (b : Nat), (∀ x ∈ xs, Deed x) → o.length = b * 5 → endsL l = true → (textL xs).length < f → pList f (textL xs ++ l) o = .bad 4 ∨ ∃ i o', pList f (textL xs ++ l) o = .good i l o' ∧ IsSt o' i (seqS xs) := by
  intro f
  induction f with
  | zero => intro xs l o b _ _ _ hf; omega
  | succ f ih =>
    have hL : ListFull f (pList f) := fun s l o b hs hl he hf => by
      have := ih s.items l o b (deed_items hs) hl he (by rw [textL_items]; exact hf)
      rw [textL_items] at this
      exact this
    intro xs l o b hd hl he hf
    cases xs with
    | nil =>
      rw [textL, List.nil_append, pList, if_pos he]
      rcases mk5_or l o 5 0 0 0 0 with h | h
      · exact .inl h
      · rw [h, hl, Nat.mul_div_cancel _ (by decide : 0 < 5)]
        exact .inr ⟨_, _, rfl, .skip (new0 hl)⟩
    | cons x ys =>
      have hx := hd x (List.mem_cons_self ..)
      have hh := deed_head hx (textL ys ++ l)
      rw [textL, List.length_append] at hf
      rw [textL, List.append_assoc, pList, if_neg (by rw [hh.1]; decide)]
      rcases pOne_full hL (pList_sound f) hx (l := textL ys ++ l) hl (by omega) with h1 | ⟨a, o1, h1, t1⟩
      · rw [h1]; exact .inl rfl
      have g1 := (pOne_sound (pValue_sound f) (pList_sound f) _ _ b _ _ _ hl h1).1
      rw [h1]
      show (if endsL (textL ys ++ l) = true then PR.good a (textL ys ++ l) o1 else (pList f (textL ys ++ l) o1).andThen _) = _ ∨ ∃ i o', (if endsL (textL ys ++ l) = true then PR.good a (textL ys ++ l) o1 else (pList f (textL ys ++ l) o1).andThen _) = _ ∧ _
      cases ys with
      | nil =>
        rw [textL, List.nil_append, if_pos he]
        exact .inr ⟨a, o1, rfl, t1⟩
      | cons y zs =>
        have hy := hd y (List.mem_cons_of_mem _ (List.mem_cons_self ..))
        have hh2 := deed_head hy (textL zs ++ l)
        have he2 : endsL (textL (y :: zs) ++ l) = false := by rw [textL, List.append_assoc]; exact hh2.1
        rw [if_neg (by rw [he2]; decide)]
        rcases ih (y :: zs) l o1 (a + 1) (fun z hz => hd z (List.mem_cons_of_mem _ hz)) g1.len he (by omega) with h2 | ⟨c, o2, h2, t2⟩
        · rw [h2]; exact .inl rfl
        have g2 := (pList_sound f _ _ (a + 1) _ _ _ g1.len h2).1
        rw [h2]
        show mk5 l o2 7 0 a c 0 = _ ∨ ∃ i o', mk5 l o2 7 0 a c 0 = _ ∧ _
        have hac : a < c := by have := g2.low; omega
        have t1' := t1.later g2.ext (by rw [g1.len]; omega)
        rcases mk5_or l o2 7 0 a c 0 with h | h
        · exact .inl h
        · rw [h, g2.len, Nat.mul_div_cancel _ (by decide : 0 < 5)]
          exact .inr ⟨_, _, rfl, .both (new0 g2.len) (new2 g2.len) (new3 g2.len) (by omega) (by omega) (t1'.ext (by rw [g2.len]; omega)) (t2.ext (by rw [g2.len]; omega))⟩
theorem list_full {s : St} (hs : s.ok) {f : Nat} (hf : s.text.length < f) : pList f s.text [] = .bad 4 ∨ ∃ i o, pList f s.text [] = .good i [] o ∧ IsSt o i s.norm := by
  have := items_full f s.items [] [] 0 (deed_items hs) rfl rfl (by rw [textL_items]; exact hf)
  rw [textL_items, List.append_nil] at this
  exact this
end Go.Proofs.YtfpghfmdkbdojaaGreatDoor

namespace Go.Proofs.YtfpghfmdkbdojaaGreatDoor
set_option linter.unusedVariables false

/-- How long the row of nodes may grow. -/
def Small (V : List UInt8 → List Int → PR) : Prop := ∀ l o i l' o', o.length ≤ 400 → o.length % 5 = 0 → V l o = .good i l' o' → o'.length ≤ 400 ∧ o'.length % 5 = 0
theorem mk5_small {l : List UInt8} {o : List Int} {k n a b c : Int} {i : Nat} {l' : List UInt8} {o' : List Int} (hl : o.length ≤ 400) (h5 : o.length % 5 = 0) (h : mk5 l o k n a b c = .good i l' o') : o'.length ≤ 400 ∧ o'.length % 5 = 0 := by
  unfold mk5 at h
  split at h
  · cases h
  · injection h with h1 h2 h3
    subst h3
    rw [List.length_append]
    show o.length + 5 ≤ 400 ∧ (o.length + 5) % 5 = 0
    omega
theorem pValue_small : ∀ f, Small (pValue f) := by
  intro f
  induction f with
  | zero => intro l o i l' o' _ _ h; cases h
  | succ f ih =>
    intro l o i l' o' hl h5 h
    cases l with
    | nil => cases h
    | cons x r =>
      rw [pValue] at h
      cases ho : opOf x with
      | some k =>
        rw [ho] at h
        obtain ⟨a, l1, o1, h1, h'⟩ := andThen_inv h
        obtain ⟨c, l2, o2, h2, h''⟩ := andThen_inv h'
        have g1 := ih _ _ _ _ _ hl h5 h1
        have g2 := ih _ _ _ _ _ g1.1 g1.2 h2
        exact mk5_small g2.1 g2.2 h''
      | none =>
        rw [ho] at h
        dsimp only at h
        by_cases h35 : x = 35
        · rw [if_pos h35] at h
          cases hn : numOf (r.takeWhile isDig) with
          | none => rw [hn] at h; cases h
          | some n => rw [hn] at h; exact mk5_small hl h5 h
        · rw [if_neg h35] at h
          cases hn : nameOf x with
          | none => rw [hn] at h; cases h
          | some n => rw [hn] at h; exact mk5_small hl h5 h
theorem pBlock_small {L : List UInt8 → List Int → PR} (hL : Small L) : Small (pBlock L) := by
  intro l o i l' o' hl h5 h
  unfold pBlock at h
  obtain ⟨r, rfl, h'⟩ := pWant_inv h
  obtain ⟨a, l1, o1, h1, h''⟩ := andThen_inv h'
  obtain ⟨r2, rfl, h3⟩ := pWant_inv h''
  injection h3 with e1 e2 e3
  subst e3
  exact hL _ _ _ _ _ hl h5 h1
theorem pOne_small {V L : List UInt8 → List Int → PR} (hV : Small V) (hL : Small L) : Small (pOne V L) := by
  intro l o i l' o' hl h5 h
  cases l with
  | nil => cases h
  | cons x r =>
    rw [pOne] at h
    by_cases h63 : x = 63
    · rw [if_pos h63] at h
      obtain ⟨a, l1, o1, h1, h'⟩ := andThen_inv h
      obtain ⟨c, l2, o2, h2, h''⟩ := andThen_inv h'
      obtain ⟨d, l3, o3, h3, h4⟩ := andThen_inv h''
      have g1 := hV _ _ _ _ _ hl h5 h1
      have g2 := pBlock_small hL _ _ _ _ _ g1.1 g1.2 h2
      have g3 := pBlock_small hL _ _ _ _ _ g2.1 g2.2 h3
      exact mk5_small g3.1 g3.2 h4
    · rw [if_neg h63] at h
      by_cases h64 : x = 64
      · rw [if_pos h64] at h
        obtain ⟨a, l1, o1, h1, h'⟩ := andThen_inv h
        obtain ⟨c, l2, o2, h2, h''⟩ := andThen_inv h'
        have g1 := hV _ _ _ _ _ hl h5 h1
        have g2 := pBlock_small hL _ _ _ _ _ g1.1 g1.2 h2
        exact mk5_small g2.1 g2.2 h''
      · rw [if_neg h64] at h
        cases hn : nameOf x with
        | none => rw [hn] at h; cases h
        | some n =>
          rw [hn] at h
          obtain ⟨r1, rfl, h'⟩ := pWant_inv h
          obtain ⟨a, l1, o1, h1, h''⟩ := andThen_inv h'
          obtain ⟨r2, rfl, h3⟩ := pWant_inv h''
          have g1 := hV _ _ _ _ _ hl h5 h1
          exact mk5_small g1.1 g1.2 h3
theorem pList_small : ∀ f, Small (pList f) := by
  intro f
  induction f with
  | zero => intro l o i l' o' _ _ h; cases h
  | succ f ih =>
    intro l o i l' o' hl h5 h
    rw [pList] at h
    by_cases he : endsL l = true
    · rw [if_pos he] at h
      exact mk5_small hl h5 h
    · rw [if_neg he] at h
      obtain ⟨a, l1, o1, h1, h'⟩ := andThen_inv h
      have g1 := pOne_small (pValue_small f) ih _ _ _ _ _ hl h5 h1
      by_cases he1 : endsL l1 = true
      · rw [if_pos he1] at h'
        injection h' with e1 e2 e3
        subst e3
        exact g1
      · rw [if_neg he1] at h'
        obtain ⟨c, l2, o2, h2, h''⟩ := andThen_inv h'
        have g2 := ih _ _ _ _ _ g1.1 g1.2 h2
        exact mk5_small g2.1 g2.2 h''
theorem size_list (s : ByteArray) : s.data.toList.length = s.size := by simp
/-- What is read of a right text: one tree of right nodes, with that text. -/
theorem readP_good {s : ByteArray} {i : Nat} {l : List UInt8} {o : List Int} (h : readP s = .good i l o) : s.size ≤ 300 ∧ o.length = (i + 1) * 5 ∧ i < 80 ∧ progCode o (i + 1) = 0 ∧ ∃ t, IsSt o i t ∧ s.data.toList = t.text := by
  unfold readP at h
  split at h
  · cases h
  rename_i h0
  split at h
  · cases h
  · rename_i j o2 hp
    injection h with e1 e2 e3
    subst e1; subst e2; subst e3
    obtain ⟨g, t, ht, hx⟩ := pList_sound _ _ _ 0 _ _ _ rfl hp
    have hs := pList_small _ _ [] _ _ _ (Nat.zero_le 400) rfl hp
    have hi : j < 80 := by have := g.len; omega
    rw [List.append_nil] at hx
    exact ⟨by omega, g.len, hi, g.forest.code hi ht.kind, t, ht, hx⟩
  · cases h
/-- A tree's text is read as its normal form, or there is no room. -/
theorem readP_text {s : ByteArray} {t : St} (ht : t.ok) (hs : s.data.toList = t.text) : readP s = .bad 4 ∨ ∃ i o, readP s = .good i [] o ∧ IsSt o i t.norm := by
  unfold readP
  split
  · exact .inl rfl
  rw [hs]
  rcases list_full ht (f := s.size + 1) (by rw [← hs, size_list]; omega) with h | ⟨i, o, h, hi⟩
  · rw [h]; exact .inl rfl
  · rw [h]; exact .inr ⟨i, o, rfl, hi⟩
/-- One behind the other. -/
theorem readP_join {s t : ByteArray} {i j : Nat} {l l' : List UInt8} {o o' : List Int} (h : readP s = .good i l o) (g : readP t = .good j l' o') :
    ∃ x y, IsSt o i x ∧ IsSt o' j y ∧ (readP (s ++ t) = .bad 4 ∨ ∃ k q, readP (s ++ t) = .good k [] q ∧ IsSt q k (St.both x y).norm) := by
  obtain ⟨-, -, -, -, x, hx, tx⟩ := readP_good h
  obtain ⟨-, -, -, -, y, hy, ty⟩ := readP_good g
  refine ⟨x, y, hx, hy, readP_text ⟨hx.ok, hy.ok⟩ ?_⟩
  rw [ByteArray.data_append, Array.toList_append, tx, ty, St.text]
/-- The one and then the other one, by how much each burns. -/
theorem join_run {x y : St} {v x' z : List Nat} {a b a' b' : Nat} (h : x.run v a = some (x', a')) (g : y.run x' b = some (z, b')) : ∀ n, (a - a') + (b - b') ≤ n → (St.both x y).norm.run v n = some (z, n - ((a - a') + (b - b'))) := by
  intro n hn
  rw [run_norm, St.run, St.burns h, burnt, if_pos (by omega)]
  dsimp only
  rw [St.burns g, burnt, if_pos (by omega), Nat.sub_sub]
end Go.Proofs.YtfpghfmdkbdojaaGreatDoor
