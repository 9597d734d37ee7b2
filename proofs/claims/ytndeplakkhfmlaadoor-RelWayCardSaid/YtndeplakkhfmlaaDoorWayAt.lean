/-
  What rel.Way holds while it searches.
-/
import Derived.Test.YtndeplakkhfmlaaDoorQueueM
import Derived.Test.YtndeplakkhfmlaaDoorBfs
import Derived.Test.YtndeplakkhfmlaaDoorRev
import Derived.Test.YtndeplakkhfmlaaDoorRelB
import Derived.Test.YtndeplakkhfmlaaDoorBits
import Derived.Test.YtndeplakkhfmlaaDoorRound
import Derived.Test.YtndeplakkhfmlaaDoorWithin
import Derived.Test.YtndeplakkhfmlaaDoorOver
import Derived.Test.YtndeplakkhfmlaaDoorStepsLaw
import Derived.Test.YtndeplakkhfmlaaDoorTail
import Derived.BigQuiet
namespace Go.Proofs.YtndeplakkhfmlaaDoor
open Go.RowKit
attribute [local go_sem] Oper.semAt_some
attribute [local simp, local go_sem] wide_fn
set_option maxRecDepth 100000
set_option linter.unusedVariables false

/-- What is told: a way, of which none to the same thing is lesser; or none. -/
def RWayPost (r : List Nat) (a b : Nat) (e : Ending) (w' : World) : Prop :=
  (∃ (p : List Nat) (m : Nat) (A : Option Addr) (c : Nat), m = p.length ∧ e = .returned (.tuple #[.slice A m c, .nilIface]) ∧ IntsAt w' A (castL p) ∧ WayTo (rE r) a p b ∧ ∀ p', WayTo (rE r) a p' b → SLe p p') ∨
  (e = .returned (.tuple #[.slice none 0 0, .iface 69 (.int .i64 5)]) ∧ ∀ p', ¬ WayTo (rE r) a p' b)

theorem own_block {base size n : Nat} {e : TypeId} {v : Value} {xs : List Value} {w w' : World} (h : w.ownsRow base e size v n xs) (hb : ∀ g, v.ownBlock = some g → w'.heap[g]? = w.heap[g]?) : w'.ownsRow base e size v n xs := by
  refine ⟨h.1, ?_⟩
  rcases h.2 with h0 | ⟨g, cap, cur, hv, hg, hc, r⟩
  · exact .inl h0
  · exact .inr ⟨g, cap, cur, hv, hg, (hb g (by rw [hv]; rfl)).trans hc, r⟩
theorem int_ne_ints : (3 : TypeId) ≠ 29 := by decide
/-- What the search holds: the queue, from where, and how far it is. -/
structure WayAt (B mb pf pa k : Nat) (W : World) (q : List Nat) (fr : List Int) (lv fv : Value) : Prop where
  qm : QM B W B mb lv q
  box : BoxN W pf 29 #[fv]
  own : OwnI W B fv fr
  at_ : BoxN W pa 3 #[.int .i64 k]
  sep : ∀ g, fv.ownBlock = some g → ¬ qS B mb lv g
  sepa : ¬ qS B mb lv pa
  sepf : ¬ qS B mb lv pf
  owna : fv.ownBlock ≠ some pa
  ownf : fv.ownBlock ≠ some pf
  paf : pa ≠ pf
  pB : B ≤ pf
section
variable {B mb pf pa k : Nat} {W W' : World} {q q' : List Nat} {fr fr' : List Int} {lv fv lv' v2 : Value}
theorem WayAt.keep (h : WayAt B mb pf pa k W q fr lv fv) (hb : ∀ b, (qS B mb lv b ∨ b = pf ∨ b = pa ∨ fv.ownBlock = some b) → W'.heap[b]? = W.heap[b]?) : WayAt B mb pf pa k W' q fr lv fv where
  qm := h.qm.keep fun b hb' => hb b (.inl hb')
  box := (hb pf (.inr (.inl rfl))).trans h.box
  own := own_block h.own fun g hg => hb g (.inr (.inr (.inr hg)))
  at_ := (hb pa (.inr (.inr (.inl rfl)))).trans h.at_
  sep := h.sep
  sepa := h.sepa
  sepf := h.sepf
  owna := h.owna
  ownf := h.ownf
  paf := h.paf
  pB := h.pB
theorem WayAt.lt (h : WayAt B mb pf pa k W q fr lv fv) {b : Nat} (hb : qS B mb lv b ∨ b = pf ∨ b = pa ∨ fv.ownBlock = some b) : b < W.heap.size := by
  rcases hb with hb | rfl | rfl | hb
  · exact (h.qm.lt hb).2
  · exact h.box.lt
  · exact h.at_.lt
  · exact (own_lt h.own hb).2
theorem WayAt.cells (h : WayAt B mb pf pa k W q fr lv fv) {b : Nat} (hb : qS B mb lv b ∨ b = pf ∨ b = pa ∨ fv.ownBlock = some b) (hne : b ≠ mb) : ∃ c t f, W.heap[b]? = some (.cells c t f) := by
  rcases hb with hb | rfl | rfl | hb
  · exact h.qm.cells hb hne
  · exact ⟨_, _, _, h.box⟩
  · exact ⟨_, _, _, h.at_⟩
  · rcases h.own.2 with ⟨h0, _⟩ | ⟨g, cap, cur, hv, hg, hc, r⟩
    · rw [h0] at hb; cases hb
    · rw [hv] at hb
      have : g = b := by simpa [Value.ownBlock] using hb
      subst this
      exact ⟨_, _, _, hc⟩
theorem WayAt.below (h : WayAt B mb pf pa k W q fr lv fv) (hb : Below W.heap.size W W') : WayAt B mb pf pa k W' q fr lv fv := h.keep fun b hb' => hb.block b (h.lt hb')
theorem WayAt.drewN (h : WayAt B mb pf pa k W q fr lv fv) (t : Nat) : WayAt B mb pf pa k (W.drewN t) q fr lv fv := h.keep fun _ _ => rfl
theorem WayAt.turned {n : Nat} (h : WayAt B mb pf pa k W q fr lv fv) (hmb : mb < n) {row : Option Nat} (hg : W.grownBy W' row) (hr : ∀ r, row = some r → n ≤ r ∧ ∃ o : Obj, W.heap[r]? = some o ∧ o.isCells = false) : WayAt B mb pf pa k W' q fr lv fv :=
  h.keep fun b hb => hg.block b (h.lt hb) fun e => by
    obtain ⟨h1, o, h2, h3⟩ := hr b e.symm
    obtain ⟨c, t, f, h4⟩ := h.cells hb (by omega)
    rw [h2] at h4
    injection h4 with h4
    subst h4
    cases h3
theorem WayAt.added (h : WayAt B mb pf pa k W q fr lv fv) (hq : QM B W' B mb lv' q') (ho : lv'.ownBlock = lv.ownBlock ∨ ∃ g, lv'.ownBlock = some g ∧ W.heap.size ≤ g) (hk : QKeeps (qS B mb lv) W W') : WayAt B mb pf pa k W' q' fr lv' fv := by
  have hS : ∀ b, b < W.heap.size → ¬ qS B mb lv b → ¬ qS B mb lv' b := fun b hb hn h' => by
    rcases h' with h' | h' | h'
    · exact hn (.inl h')
    · exact hn (.inr (.inl h'))
    · rcases ho with e | ⟨g, e, hg⟩
      · exact hn (.inr (.inr (by rw [← e]; exact h')))
      · rw [e] at h'
        injection h' with h'
        omega
  have l1 := h.box.lt
  have l2 := h.at_.lt
  refine ⟨hq, hk.box h.box h.sepf, own_block h.own (fun g hg => hk.block g (own_lt h.own hg).2 (h.sep g hg)), hk.box h.at_ h.sepa, fun g hg => hS g (own_lt h.own hg).2 (h.sep g hg), hS pa l2 h.sepa, hS pf l1 h.sepf, h.owna, h.ownf, h.paf, h.pB⟩
theorem WayAt.pushed (h : WayAt B mb pf pa k W q fr lv fv) {o : Obj} {w4 : World} (hg : (W.alloc o).grownBy w4 fv.ownBlock) (hv : v2.ownBlock = fv.ownBlock ∨ v2.ownBlock = some (W.alloc o).heap.size) (ho : OwnI w4 B v2 fr') : WayAt B mb pf pa k (w4.setCell ⟨pf, 0, none⟩ v2) q fr' lv v2 := by
  have hblk : ∀ b, b < W.heap.size → fv.ownBlock ≠ some b → w4.heap[b]? = W.heap[b]? := fun b hb hn => (hg.block b (by simp; omega) (fun e => hn e.symm)).trans (Below.heap_alloc W o b hb)
  have l1 := h.box.lt
  have l2 := h.at_.lt
  have hx4 : BoxN w4 pf 29 #[fv] := (hblk pf l1 h.ownf).trans h.box
  have hset : ∀ b, b ≠ pf → (w4.setCell ⟨pf, 0, none⟩ v2).heap[b]? = w4.heap[b]? := fun b hb => Below.heap_setCell w4 ⟨pf, 0, none⟩ v2 b hb
  have hv2 : ∀ b, b < W.heap.size → fv.ownBlock ≠ some b → v2.ownBlock ≠ some b := fun b hb hn e => by
    rcases hv with h1 | h1
    · exact hn (by rw [← h1]; exact e)
    · rw [e] at h1
      injection h1 with h1
      simp at h1
      omega
  refine ⟨h.qm.keep (fun b hb => (hset b (fun e => h.sepf (by rw [← e]; exact hb))).trans (hblk b (h.qm.lt hb).2 (fun e => h.sep b e hb))), hx4.set 0 v2, own_off ho hx4 int_ne_ints v2, (hset pa h.paf).trans ((hblk pa l2 h.owna).trans h.at_), ?_, h.sepa, h.sepf, hv2 pa l2 h.owna, hv2 pf l1 h.ownf, h.paf, h.pB⟩
  intro g hg' h'
  exact hv2 g (h.qm.lt h').2 (fun e => h.sep g e h') hg'
theorem WayAt.next (h : WayAt B mb pf pa k W q fr lv fv) (t : Nat) : WayAt B mb pf W.heap.size t (W.alloc (.cells #[.int .i64 t] 3)) q fr lv fv := by
  have h' := h.below ((Below.refl W.heap.size W).alloc (Nat.le_refl _) (.cells #[.int .i64 t] 3))
  have l1 := h.box.lt
  refine ⟨h'.qm, h'.box, h'.own, BoxN.new W 3 #[.int .i64 t], h.sep, fun e => ?_, h.sepf, fun e => ?_, h.ownf, by omega, h.pB⟩
  · have := (h.qm.lt e).2; omega
  · have := (own_lt h.own e).2; omega
end
/-- How many are not looked at. -/
def wayMu (n : Nat) (v : Value) (W : World) : Nat := match v with | .pointer (some ⟨pa, _, _⟩) => (match W.cell? ⟨pa, 0, none⟩ with | some (.int _ z) => n - z.toNat | _ => 0) | _ => 0
theorem wayMu_at {n pa k : Nat} {W : World} (h : W.cell? ⟨pa, 0, none⟩ = some (.int .i64 k)) : wayMu n (.pointer (some ⟨pa, 0, none⟩)) W = n - k := by
  unfold wayMu; simp [h]
/-- Behind which thing the bits that are done lie. -/
def dnOf (pre : List Nat) : Nat := match pre.getLast? with | none => 0 | some y => y + 1
theorem dnOf_snoc (pre : List Nat) (x : Nat) : dnOf (pre ++ [x]) = x + 1 := by unfold dnOf; simp
theorem bits_sorted (s : Nat) : (bitsOf s).Pairwise (· < ·) := List.Pairwise.filter _ List.pairwise_lt_range
theorem dn_gap {s : Nat} (hs : s < 2 ^ 64) {pre : List Nat} {x : Nat} (h : pre ++ [x] <+: bitsOf s) : dnOf pre ≤ x ∧ ∀ y, dnOf pre ≤ y → y < x → s.testBit y = false := by
  obtain ⟨t, ht⟩ := h
  have hsort := bits_sorted s
  rw [← ht] at hsort
  have hs1 := List.pairwise_append.1 hsort
  have hs2 := List.pairwise_append.1 hs1.1
  have hlast : ∀ y ∈ pre, y < dnOf pre := fun y hy => by
    unfold dnOf
    cases hl : pre.getLast? with
    | none => rw [List.getLast?_eq_none_iff] at hl; subst hl; cases hy
    | some z =>
      obtain ⟨p', rfl⟩ := List.getLast?_eq_some_iff.1 hl
      rcases List.mem_append.1 hy with h1 | h1
      · have := (List.pairwise_append.1 hs2.1).2.2 y h1 z (by simp)
        show y < z + 1
        omega
      · rw [List.mem_singleton] at h1; subst h1; show y < y + 1; omega
  constructor
  · unfold dnOf
    cases hl : pre.getLast? with
    | none => exact Nat.zero_le _
    | some z =>
      obtain ⟨p', rfl⟩ := List.getLast?_eq_some_iff.1 hl
      exact hs2.2.2 z (by simp) x (by simp)
  · intro y h1 h2
    cases hb : s.testBit y with
    | false => rfl
    | true =>
      have := (mem_bitsOf hs).2 hb
      rw [← ht] at this
      rcases List.mem_append.1 this with h3 | h3
      · rcases List.mem_append.1 h3 with h4 | h4
        · have := hlast y h4; omega
        · rw [List.mem_singleton] at h4; omega
      · have := hs1.2.2 x (by simp) y h3; omega
theorem dn_end {s : Nat} (hs : s < 2 ^ 64) : ∀ y, dnOf (bitsOf s) ≤ y → s.testBit y = false := by
  intro y h1
  cases hb : s.testBit y with
  | false => rfl
  | true =>
    have hm := (mem_bitsOf hs).2 hb
    have hsort := bits_sorted s
    unfold dnOf at h1
    cases hl : (bitsOf s).getLast? with
    | none => rw [List.getLast?_eq_none_iff] at hl; rw [hl] at hm; cases hm
    | some z =>
      rw [hl] at h1
      have h1 : z + 1 ≤ y := h1
      obtain ⟨p', hp⟩ := List.getLast?_eq_some_iff.1 hl
      rw [hp] at hm hsort
      rcases List.mem_append.1 hm with h3 | h3
      · have := (List.pairwise_append.1 hsort).2.2 y h3 z (by simp); omega
      · rw [List.mem_singleton] at h3; omega
end Go.Proofs.YtndeplakkhfmlaaDoor
