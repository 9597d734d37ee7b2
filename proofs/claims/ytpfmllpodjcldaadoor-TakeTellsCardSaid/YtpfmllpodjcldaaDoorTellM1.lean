/-
  How far each is from one, and the least of the shortest ways by it. Plain laws; no program of Go in sight.
  Contracts: quietwingref1.steps, quietwingref1.Way.
  Contract: quietwingref1.Way.
  Contracts: quietwingref1.less3, quietwingref1.links.
  Contract: quietwingref1.links.
  Contract: quietwingref1.Chain.
-/
import Derived.Test.YtpfmllpodjcldaaDoorPlanLaw3
import Derived.Test.YtpfmllpodjcldaaDoorClose
import Derived.Test.YtpfmllpodjcldaaDoorLeafN
import Derived.Test.YtpfmllpodjcldaaDoorPush
import Derived.Test.YtpfmllpodjcldaaDoorCast
import Derived.BigQuiet
import Derived.Test.YtpfmllpodjcldaaDoorTakeB
import Derived.Test.YtpfmllpodjcldaaDoorSetsN
import Derived.Test.YtpfmllpodjcldaaDoorTakeFact
namespace Go.Proofs.YtpfmllpodjcldaaDoor
set_option linter.unusedVariables false

/-- One thing leads to another one. -/
def rE (r : List Nat) (i j : Nat) : Prop := i < r.length ∧ j < r.length ∧ (row r i).testBit j = true
instance (r : List Nat) (i j : Nat) : Decidable (rE r i j) := inferInstanceAs (Decidable (_ ∧ _))
/-- In so many steps to one. -/
inductive ToB (E : Nat → Nat → Prop) (b : Nat) : Nat → Nat → Prop where
  | here : ToB E b b 0
  | step {i j m : Nat} : E i j → ToB E b j m → ToB E b i (m + 1)
/-- A way, its first thing told. -/
inductive CWay (E : Nat → Nat → Prop) (b : Nat) : Nat → List Nat → Prop where
  | here : CWay E b b [b]
  | step {i j : Nat} {p : List Nat} : E i j → CWay E b j p → CWay E b i (i :: p)
section
variable {E : Nat → Nat → Prop}
theorem CWay.head {b i : Nat} {p : List Nat} (h : CWay E b i p) : ∃ q, p = i :: q := by cases h <;> exact ⟨_, rfl⟩
theorem CWay.snoc {b i x : Nat} {p : List Nat} (h : CWay E b i p) (e : E b x) : CWay E x i (p ++ [x]) := by
  induction h with
  | here => exact .step e .here
  | step e' _ ih => exact .step e' ih
theorem way_cway {a : Nat} {p : List Nat} {x : Nat} (h : WayTo E a p x) : CWay E x a p := by
  induction h with
  | start => exact .here
  | more _ e ih => exact ih.snoc e
theorem way_cons {i j : Nat} {p : List Nat} {x : Nat} (e : E i j) (h : WayTo E j p x) : WayTo E i (i :: p) x := by
  induction h with
  | start => exact .more (p := [i]) .start e
  | more _ e' ih => exact .more (p := i :: _) ih e'
theorem cway_way {b i : Nat} {p : List Nat} (h : CWay E b i p) : WayTo E i p b := by
  induction h with
  | here => exact .start
  | step e _ ih => exact way_cons e ih
theorem CWay.to {b i : Nat} {p : List Nat} (h : CWay E b i p) : ToB E b i (p.length - 1) ∧ 0 < p.length := by
  induction h with
  | here => exact ⟨.here, by simp⟩
  | @step i j p e _ ih =>
    obtain ⟨h1, h2⟩ := ih
    refine ⟨?_, by simp⟩
    have := ToB.step e h1
    rw [List.length_cons, show p.length + 1 - 1 = p.length - 1 + 1 by omega]
    exact this
theorem ToB.way {b i m : Nat} (h : ToB E b i m) : ∃ p, CWay E b i p ∧ p.length = m + 1 := by
  induction h with
  | here => exact ⟨_, .here, rfl⟩
  | step e _ ih =>
    obtain ⟨p, h1, h2⟩ := ih
    exact ⟨_, .step e h1, by simp [h2]⟩
/-- No more steps than there are things are wanted. -/
theorem ToB.few {b i m n : Nat} (hi : i < n) (hE : ∀ x y, E x y → y < n) (h : ToB E b i m) : ∃ k, ToB E b i k ∧ k ≤ m ∧ k < n := by
  obtain ⟨p, h1, h2⟩ := h.way
  obtain ⟨s, k1, k2, k3, _⟩ := way_short p.length (Nat.le_refl _) (cway_way h1)
  have h3 := nodup_le k2 (way_lt hi hE k1)
  obtain ⟨h4, h5⟩ := (way_cway k1).to
  exact ⟨_, h4, by omega, by omega⟩
end

/-- The row i of distances is right as far as m steps. -/
def Cov (r : List Nat) (b : Nat) (l : List Nat) (t i : Nat) : Prop := ∀ m, m ≤ t → ToB (rE r) b i m → row l i ≤ m
structure DInv (r : List Nat) (b : Nat) (l : List Nat) : Prop where
  len : l.length = r.length
  high : ∀ i, row l i ≤ 20
  zero : row l b = 0
  sound : ∀ i, i < r.length → row l i < 20 → ToB (rE r) b i (row l i)
section
variable {r : List Nat} {b : Nat} {l : List Nat}
theorem row_set_same {l : List Nat} {i x : Nat} (h : i < l.length) : row (l.set i x) i = x := by unfold row; rw [List.getElem?_set_self h]; rfl
theorem row_set_other {l : List Nat} {i j x : Nat} (h : j ≠ i) : row (l.set i x) j = row l j := by unfold row; rw [List.getElem?_set_ne (fun e => h e.symm)]
theorem row_over {l : List Nat} {i : Nat} (h : l.length ≤ i) : row l i = 0 := by unfold row; rw [List.getElem?_eq_none h]; rfl
theorem DInv.start (hb : b < r.length) : DInv r b ((List.replicate r.length 20).set b 0) where
  len := by simp
  high := fun i => by
    by_cases e : i = b
    · subst e; rw [row_set_same (by simpa using hb)]; omega
    · rw [row_set_other e]; unfold row; rw [List.getElem?_replicate]; split <;> simp
  zero := row_set_same (by simpa using hb)
  sound := fun i hi h => by
    by_cases e : i = b
    · subst e; rw [row_set_same (by simpa using hb)]; exact .here
    · rw [row_set_other e] at h
      unfold row at h
      rw [List.getElem?_replicate, if_pos hi] at h
      exact absurd h (by decide)
theorem DInv.put (h : DInv r b l) {i j : Nat} (he : rE r i j) (hlt : row l j + 1 < row l i) : DInv r b (l.set i (row l j + 1)) ∧ ∀ k, row (l.set i (row l j + 1)) k ≤ row l k := by
  have hi : i < l.length := by rw [h.len]; exact he.1
  have hmono : ∀ k, row (l.set i (row l j + 1)) k ≤ row l k := fun k => by
    by_cases e : k = i
    · subst e; rw [row_set_same hi]; omega
    · rw [row_set_other e]; exact Nat.le_refl _
  have h20 := h.high i
  refine ⟨⟨by rw [List.length_set]; exact h.len, fun k => Nat.le_trans (hmono k) (h.high k), ?_, fun k hk hk2 => ?_⟩, hmono⟩
  · have := hmono b; have := h.zero; omega
  · by_cases e : k = i
    · subst e
      rw [row_set_same hi] at hk2 ⊢
      exact .step he (h.sound j he.2.1 (by omega))
    · rw [row_set_other e] at hk2 ⊢
      exact h.sound k hk hk2
theorem Cov.mono {l' : List Nat} {t i : Nat} (h : Cov r b l t i) (hm : ∀ k, row l' k ≤ row l k) : Cov r b l' t i := fun m hm1 hm2 => Nat.le_trans (hm i) (h m hm1 hm2)
theorem Cov.zero (h : DInv r b l) (i : Nat) : Cov r b l 0 i := fun m hm ht => by
  obtain rfl : m = 0 := by omega
  cases ht
  rw [h.zero]; omega
/-- A row of which all neighbours were looked at is right a step further. -/
theorem Cov.next {t i : Nat} (h : DInv r b l) (hs : ∀ j, rE r i j → ∀ m, m ≤ t → ToB (rE r) b j m → row l i ≤ m + 1) : Cov r b l (t + 1) i := fun m hm ht => by
  cases ht with
  | here => rw [h.zero]; omega
  | step e ht' => exact hs _ e _ (by omega) ht'
/-- How far each is. -/
structure RDist (r : List Nat) (b : Nat) (l : List Nat) : Prop where
  len : l.length = r.length
  high : ∀ i, row l i ≤ 20
  sound : ∀ i, i < r.length → row l i < 20 → ToB (rE r) b i (row l i)
  cov : ∀ i m, i < r.length → ToB (rE r) b i m → row l i ≤ m
theorem DInv.done (h : DInv r b l) (hc : ∀ i, i < r.length → Cov r b l r.length i) : RDist r b l :=
  ⟨h.len, h.high, h.sound, fun i m hi ht => by
    obtain ⟨k, k1, k2, k3⟩ := ht.few hi (fun x y e => e.2.1)
    exact Nat.le_trans (hc i hi k (by omega) k1) k2⟩

/-- The way that always goes to the least next thing that is nearer. -/
inductive GWay (r : List Nat) (b : Nat) (l : List Nat) : Nat → List Nat → Prop where
  | here : GWay r b l b [b]
  | step {a j : Nat} {p : List Nat} : rE r a j → row l a = row l j + 1 → (∀ j', j' < j → ¬ (rE r a j' ∧ row l a = row l j' + 1)) → GWay r b l j p → GWay r b l a (a :: p)
theorem GWay.way {a : Nat} {p : List Nat} (h : GWay r b l a p) : CWay (rE r) b a p := by
  induction h with
  | here => exact .here
  | step e _ _ _ ih => exact .step e ih
theorem GWay.long (hl : RDist r b l) (hb : b < r.length) {a : Nat} {p : List Nat} (h : GWay r b l a p) : p.length = row l a + 1 := by
  induction h with
  | here => have := hl.cov b 0 hb .here; simp; omega
  | step _ e _ _ ih => rw [List.length_cons, ih, e]
theorem RDist.edge (hl : RDist r b l) {a j : Nat} (he : rE r a j) (hj : row l j < 20) : row l a ≤ row l j + 1 := hl.cov a _ he.1 (.step he (hl.sound j he.2.1 hj))
theorem SLe.cons {p q : List Nat} (h : SLe p q) (a : Nat) : SLe (a :: p) (a :: q) := by
  rcases h with rfl | h | ⟨h1, h2⟩
  · exact .inl rfl
  · exact .inr (.inl (by simpa using h))
  · exact .inr (.inr ⟨by simp [h1], .inr ⟨rfl, h2⟩⟩)
/-- It is the least of the shortest. -/
theorem GWay.least (hl : RDist r b l) (hb : b < r.length) {a : Nat} {p : List Nat} (h : GWay r b l a p) : ∀ {p' : List Nat}, CWay (rE r) b a p' → SLe p p' := by
  induction h with
  | here =>
    intro p' h'
    cases h' with
    | here => exact .inl rfl
    | step _ h2 => exact .inr (.inl (by have := h2.to.2; simp; omega))
  | @step a j p e e1 e2 hg ih =>
    intro p' h'
    have hlp := hg.long hl hb
    cases h' with
    | here =>
      have := hl.cov b 0 hb .here
      omega
    | @step _ j' q e' h2 =>
      obtain ⟨k1, k2⟩ := h2.to
      have h3 := hl.cov j' _ e'.2.1 k1
      rcases Nat.lt_trichotomy p.length q.length with h4 | h4 | h4
      · exact .inr (.inl (by simpa using h4))
      · have h5 : row l j' ≤ row l j := by omega
        have hj20 : row l j' < 20 := by have := hl.high a; omega
        have h6 := hl.edge e' hj20
        have h7 : row l a = row l j' + 1 := by omega
        rcases Nat.lt_trichotomy j j' with h8 | h8 | h8
        · obtain ⟨p1, rfl⟩ := hg.way.head
          obtain ⟨q1, rfl⟩ := h2.head
          exact .inr (.inr ⟨by simpa using h4, .inr ⟨rfl, .inl h8⟩⟩)
        · subst h8
          exact (ih h2).cons a
        · exact absurd ⟨e', h7⟩ (e2 j' h8)
      · have := hl.high a
        have hj20 : row l j' < 20 := by omega
        have h6 := hl.edge e' hj20
        omega
/-- The next thing. -/
theorem RDist.next (hl : RDist r b l) {a : Nat} (ha : a < r.length) (hab : a ≠ b) (h20 : row l a < 20) : ∃ j, rE r a j ∧ row l a = row l j + 1 := by
  have hs := hl.sound a ha h20
  generalize hm : row l a = m at *
  cases hs with
  | here => exact absurd rfl hab
  | @step _ j m e ht =>
    have h1 := hl.cov j m e.2.1 ht
    have h2 := hl.edge e (by omega)
    exact ⟨j, e, by omega⟩
theorem least_of {P : Nat → Prop} (h : ∃ j, P j) : ∃ j, P j ∧ ∀ k, k < j → ¬ P k := by
  obtain ⟨j, hj⟩ := h
  induction j using Nat.strongRecOn with
  | _ j ih =>
    by_cases hc : ∃ k, k < j ∧ P k
    · obtain ⟨k, h1, h2⟩ := hc
      exact ih k h1 h2
    · exact ⟨j, hj, fun k h1 h2 => hc ⟨k, h1, h2⟩⟩
theorem RDist.gway (hl : RDist r b l) : ∀ (m : Nat) {a : Nat}, a < r.length → row l a = m → m < 20 → ∃ p, GWay r b l a p
  | m, a, ha, hm, h20 => by
    by_cases hab : a = b
    · subst hab; exact ⟨_, .here⟩
    · obtain ⟨j, ⟨h1, h2⟩, h3⟩ := least_of (hl.next ha hab (by omega))
      obtain ⟨p, hp⟩ := RDist.gway hl (row l j) h1.2.1 rfl (by omega)
      exact ⟨_, .step h1 h2 h3 hp⟩
  termination_by m => m
end
end Go.Proofs.YtpfmllpodjcldaaDoor

namespace Go.Proofs.YtpfmllpodjcldaaDoor
open Go.RowKit
set_option maxRecDepth 100000
set_option linter.unusedVariables false

section
variable {w : World} {B g n c : Nat} {l : List Nat}
/-- A cell of a row of one's own, and a store into it. -/
theorem own_cellN (h : OwnI w B (.slice (some ⟨g, 0, none⟩) n c) (castL l)) (hn : l.length = n) {j : Nat} (hj : j < n) : w.cell? ⟨g, j, none⟩ = some (.int .i64 (row l j : Nat)) ∧ w.frozen? ⟨g, j, none⟩ = false ∧ B ≤ g := by
  have h' : w.ownsRow B 3 1 (.slice (some ⟨g, 0, none⟩) n c) (castL l).length ((castL l).map (.int .i64)) := h
  rw [length_castL, hn] at h'
  have := h'.cells (g := g) rfl j _ (get_cast_val l j (by omega))
  rw [Addr.add_lit, Nat.zero_add] at this
  exact ⟨this, h'.frozenAt j, (h'.lt g rfl).1⟩
theorem own_storeN (h : OwnI w B (.slice (some ⟨g, 0, none⟩) n c) (castL l)) (hn : l.length = n) (j x : Nat) : OwnI (w.setCell ⟨g, j, none⟩ (.int .i64 x)) B (.slice (some ⟨g, 0, none⟩) n c) (castL (l.set j x)) := by
  have h' : w.ownsRow B 3 1 (.slice (some ⟨g, 0, none⟩) n c) (castL l).length ((castL l).map (.int .i64)) := h
  rw [length_castL, hn] at h'
  have := (h'.stored j (.int .i64 (x : Int))).1
  unfold OwnI
  rw [length_castL, List.length_set, hn, map_set_cast]
  exact this
end
theorem castL_replicate (k x : Nat) : castL (List.replicate k x) = List.replicate k (x : Int) := by simp [castL]
theorem replicate_push (k x : Nat) : castL (List.replicate (k + 1) x) = castL (List.replicate k x) ++ [(x : Int)] := by rw [List.replicate_succ', castL_append]; rfl

set_option maxHeartbeats 8000000 in
theorem RSteps_any {w : World} {A : Option Addr} {c n b : Nat} {r : List Nat} (h : IntsAt w A (castL r)) (hn : r.length = n) (hn20 : n ≤ 20) (hb : b < n) (hr : ∀ i, i < n → row r i < 2 ^ 60) :
    Calls Tryd.prog 61 #[.slice A n c, .int .i64 b] w fun e w' => (∃ g c' l, e = .returned (.slice (some ⟨g, 0, none⟩) n c') ∧ RDist r b l ∧ OwnI w' w.heap.size (.slice (some ⟨g, 0, none⟩) n c') (castL l)) ∧ Below w.heap.size w w' := by
  have HI := Lib.hid h
  have Hr := Lib.hid hr
  have Hn := Lib.hid hn
  clear h hr hn
  go_enter Tryd.func61, Tryd.ntmps61
  go_wp2_with fail
  go_loopw [5, 6] (fun v i wr => ∃ k : Nat, k ≤ n ∧ i = .int .i64 k ∧ OwnI wr w.heap.size v (castL (List.replicate k 20)) ∧ Below w.heap.size w wr) (fun _ i _ => n - (intOf i).toNat)
  case atStart => exact ⟨0, Nat.zero_le _, rfl, OwnI.nil _ _, Below.refl _ _⟩
  case round =>
    obtain ⟨k, hk, rfl, hown, hbr⟩ := hrel
    by_cases hlt : k < n
    · have hlen : (castL (List.replicate k 20)).length < 2 ^ 40 := by simp [castL]; omega
      have hs := hbr.size
      go_wp2_with (at_builtin; refine wpList_push_int rfl _ _ rfl (base := w.heap.size) (v := u5) rfl (hown.next ((Below.refl _ wr).alloc (Nat.le_refl _) _)) wr.heap.size (20 : Int) rfl (cell_of_row _ _ 0 _ _ _ (heap_alloc_new wr _)) hlen (by simp; omega) ?_; intro v2 w4 ho4 hg4 hv4 hbl4; have hb4 := hbl4 _ (hbr.alloc hs (.cells #[.int .i64 20] 3)))
      refine ⟨⟨k + 1, ?ya, ?yb, ?yc, hb4⟩, ?yd⟩
      case ya => omega
      case yb => go_num
      case yc => rw [replicate_push]; exact ho4
      case yd => simp [intOf]; omega
    · obtain rfl : k = n := by omega
      obtain ⟨A9, c9, hv9, _⟩ := hown.form
      rw [length_castL, List.length_replicate] at hv9
      subst hv9
      have hown' : wr.ownsRow w.heap.size 3 1 (.slice A9 k c9) (castL (List.replicate k 20)).length ((castL (List.replicate k 20)).map (.int .i64)) := hown
      rw [length_castL, List.length_replicate] at hown'
      obtain ⟨g, hA9, hgB, _⟩ := OwnAt.of_owns hown' (by omega)
      subst hA9
      obtain ⟨x0, xf, _⟩ := own_cellN hown (by simp) hb
      have ho5 := own_storeN hown (by simp) b 0
      have hb5 := hbr.setCell (p := ⟨g, b, none⟩) hgB (.int .i64 ((0 : Nat) : Int))
      have hD := DInv.start (r := r) (b := b) (by have := Hn.out; omega)
      rw [Hn.out] at hD
      have HgB := Lib.hid hgB
      have Ho5 := Lib.hid ho5
      clear hown hown' ho5
      go_wp2_with fail
      generalize wr.setCell ⟨g, b, none⟩ (.int .i64 0) = w5 at *
      clear x0 xf hbr
      go_loopw [7] (fun i wr => ∃ (t : Nat) (l : List Nat), t ≤ k ∧ i = .int .i64 t ∧ OwnI wr w.heap.size (.slice (some ⟨g, 0, none⟩) k c9) (castL l) ∧ Hid (DInv r b l) ∧ Hid (∀ i, i < k → Cov r b l t i) ∧ Below w.heap.size w wr) (fun i _ => k - (intOf i).toNat)
      case atStart => exact ⟨0, _, Nat.zero_le _, rfl, Ho5.out, Lib.hid hD, Lib.hid (fun i _ => Cov.zero hD i), hb5⟩
      case round =>
        clear hb5 hD Ho5
        obtain ⟨t, l, ht, rfl, hown, hD, hC, hbr⟩ := hrel
        by_cases htk : t < k
        · go_wp2_with fail
          go_loopw [8] (fun i wr => ∃ (a : Nat) (l : List Nat), a ≤ k ∧ i = .int .i64 a ∧ OwnI wr w.heap.size (.slice (some ⟨g, 0, none⟩) k c9) (castL l) ∧ Hid (DInv r b l) ∧ Hid (∀ i, i < k → Cov r b l t i) ∧ Hid (∀ i, i < a → Cov r b l (t + 1) i) ∧ Below w.heap.size w wr) (fun i _ => k - (intOf i).toNat)
          case atStart => exact ⟨0, l, Nat.zero_le _, rfl, hown, hD, hC, Lib.hid (fun i hi => by omega), hbr⟩
          case round =>
            clear hown hD hC hbr
            obtain ⟨a, l, ha, rfl, hown, hD, hC, hC1, hbr⟩ := hrel
            by_cases hak : a < k
            · go_wp2_with fail
              go_loopw [9] (fun i wr => ∃ (j : Nat) (l : List Nat), j ≤ k ∧ i = .int .i64 j ∧ OwnI wr w.heap.size (.slice (some ⟨g, 0, none⟩) k c9) (castL l) ∧ Hid (DInv r b l) ∧ Hid (∀ i, i < k → Cov r b l t i) ∧ Hid (∀ i, i < a → Cov r b l (t + 1) i) ∧ Hid (∀ j', j' < j → rE r a j' → ∀ m, m ≤ t → ToB (rE r) b j' m → row l a ≤ m + 1) ∧ Below w.heap.size w wr) (fun i _ => k - (intOf i).toNat)
              case atStart => exact ⟨0, l, Nat.zero_le _, rfl, hown, hD, hC, hC1, Lib.hid (fun j hj => by omega), hbr⟩
              case round =>
                clear hown hD hC hC1 hbr
                obtain ⟨j, l, hj, rfl, hown, hD, hC, hC1, hS, hbr⟩ := hrel
                by_cases hjk : j < k
                · have hll : l.length = k := by rw [hD.out.len, Hn.out]
                  obtain ⟨x0, xf, _⟩ := own_cellN hown hll hak
                  obtain ⟨y0, yf, _⟩ := own_cellN hown hll hjk
                  obtain ⟨b1, o1, rfl, z0⟩ := (HI.out.below (hbr.mono (Nat.le_refl _))).row (k := a) (by have := Hn.out; omega)
                  have hh1 := hD.out.high a
                  have hh2 := hD.out.high j
                  cases hbit : (row r a).testBit j with
                  | false =>
                    have B1 := Lib.hid (fun V => Bit_is (row r a) j false V (by have := Hr.out a hak; omega) (by omega) hbit)
                    have HS2 := Lib.hid (show ∀ j', j' < j + 1 → rE r a j' → ∀ m, m ≤ t → ToB (rE r) b j' m → row l a ≤ m + 1 from fun j' h1 h2 => by
                      rcases Nat.lt_or_ge j' j with h3 | h3
                      · exact hS.out j' h3 h2
                      · obtain rfl : j' = j := by omega
                        have := h2.2.2; rw [hbit] at this; cases this)
                    clear hS hbit
                    generalize row r a = ra at *
                    generalize row l j = lj at *
                    go_wp2_with fail
                    go_quiet (first | (with_reducible exact quiet1 (B1.out _)))
                    go_wp2_with fail
                    refine ⟨⟨j + 1, l, ?ya, ?yb, hown.drewN _, hD, hC, hC1, HS2, belowD hbr _⟩, ?yd⟩
                    case ya => omega
                    case yb => go_num
                    case yd => simp [intOf]; omega
                  | true =>
                    have B1 := Lib.hid (fun V => Bit_is (row r a) j true V (by have := Hr.out a hak; omega) (by omega) hbit)
                    have he : rE r a j := ⟨by have := Hn.out; omega, by have := Hn.out; omega, hbit⟩
                    by_cases hless : row l j + 1 < row l a
                    · have dl : decide (((row l j : Nat) : Int) + 1 < ((row l a : Nat) : Int)) = true := decide_eq_true (by omega)
                      obtain ⟨hp1, hp2⟩ := hD.out.put he hless
                      have HD2 := Lib.hid hp1
                      have HC2 := Lib.hid (show ∀ i, i < k → Cov r b (l.set a (row l j + 1)) t i from fun i hi => (hC.out i hi).mono hp2)
                      have HC12 := Lib.hid (show ∀ i, i < a → Cov r b (l.set a (row l j + 1)) (t + 1) i from fun i hi => (hC1.out i hi).mono hp2)
                      have HS2 := Lib.hid (show ∀ j', j' < j + 1 → rE r a j' → ∀ m, m ≤ t → ToB (rE r) b j' m → row (l.set a (row l j + 1)) a ≤ m + 1 from fun j' h1 h2 m h4 h5 => by
                        rcases Nat.lt_or_ge j' j with h3 | h3
                        · exact Nat.le_trans (hp2 a) (hS.out j' h3 h2 m h4 h5)
                        · obtain rfl : j' = j := by omega
                          rw [row_set_same (by omega)]
                          have := hC.out j' hjk m h4 h5
                          omega)
                      have Hst := Lib.hid (fun q => own_storeN (hown.drewN q) hll a (row l j + 1))
                      clear hS hbit hp1 hp2 hC hC1 hD he hless
                      generalize row r a = ra at *
                      generalize row l a = la at *
                      generalize row l j = lj at *
                      go_wp2_with fail
                      go_quiet (first | (with_reducible exact quiet1 (B1.out _)))
                      go_wp2_with fail
                      refine ⟨⟨j + 1, _, ?za, ?zb, ?zc, HD2, HC2, HC12, HS2, ?ze⟩, ?zd⟩
                      case za => omega
                      case zb => go_num
                      case zc => exact Hst.out _
                      case ze => exact (belowD hbr _).setCell (p := ⟨g, a, none⟩) HgB.out _
                      case zd => simp [intOf]; omega
                    · have dl : decide (((row l j : Nat) : Int) + 1 < ((row l a : Nat) : Int)) = false := decide_eq_false (by omega)
                      have HS2 := Lib.hid (show ∀ j', j' < j + 1 → rE r a j' → ∀ m, m ≤ t → ToB (rE r) b j' m → row l a ≤ m + 1 from fun j' h1 h2 m h4 h5 => by
                        rcases Nat.lt_or_ge j' j with h3 | h3
                        · exact hS.out j' h3 h2 m h4 h5
                        · obtain rfl : j' = j := by omega
                          have := hC.out j' hjk m h4 h5
                          omega)
                      clear hS hbit he hless
                      generalize row r a = ra at *
                      generalize row l j = lj at *
                      go_wp2_with fail
                      go_quiet (first | (with_reducible exact quiet1 (B1.out _)))
                      go_wp2_with fail
                      refine ⟨⟨j + 1, l, ?xa, ?xb, hown.drewN _, hD, hC, hC1, HS2, belowD hbr _⟩, ?xd⟩
                      case xa => omega
                      case xb => go_num
                      case xd => simp [intOf]; omega
                · have hjk2 := Lib.hid (show j = k by omega)
                  have HC2 := Lib.hid (show ∀ i, i < a + 1 → Cov r b l (t + 1) i from fun i hi => by
                    rcases Nat.lt_or_ge i a with h1 | h1
                    · exact hC1.out i h1
                    · obtain rfl : i = a := by omega
                      exact Cov.next hD.out (fun j' he m h4 h5 => hS.out j' (by have := he.2.1; have := Hn.out; omega) he m h4 h5))
                  have dj : decide ((j : Int) < (k : Int)) = false := decide_eq_false (by omega)
                  clear hS hC1
                  go_wp2_with fail
                  refine ⟨⟨a + 1, l, ?wa, ?wb, hown, hD, hC, HC2, hbr⟩, ?wd⟩
                  case wa => omega
                  case wb => go_num
                  case wd => simp [intOf]; omega
            · have da : decide ((a : Int) < (k : Int)) = false := decide_eq_false (by omega)
              have HC2 := Lib.hid (show ∀ i, i < k → Cov r b l (t + 1) i from fun i hi => hC1.out i (by omega))
              clear hC hC1
              go_wp2_with fail
              refine ⟨⟨t + 1, l, ?va, ?vb, hown, hD, HC2, hbr⟩, ?vd⟩
              case va => omega
              case vb => go_num
              case vd => simp [intOf]; omega
        · have dt : decide ((t : Int) < (k : Int)) = false := decide_eq_false (by omega)
          have hte : t = r.length := by have := Hn.out; omega
          have HR := Lib.hid (hD.out.done (fun i hi => by
            have h1 := hC.out i (by have := Hn.out; omega)
            rw [← hte]; exact h1))
          clear hte
          have Hown := Lib.hid hown
          clear hC hD hown
          go_wp2_with fail
          go_ret
          exact ⟨⟨g, c9, l, rfl, HR.out, Hown.out⟩, hbr⟩
end Go.Proofs.YtpfmllpodjcldaaDoor

namespace Go.Proofs.YtpfmllpodjcldaaDoor
open Go.RowKit
set_option maxRecDepth 100000
set_option linter.unusedVariables false

/-- The least of the shortest ways, or that there is none. -/
def WayPost (r : List Nat) (a b : Nat) (e : Ending) (w' : World) : Prop :=
  (∃ (p : List Nat) (m : Nat) (A : Option Addr) (c : Nat), m = p.length ∧ e = .returned (.tuple #[.slice A m c, .bool true]) ∧ IntsAt w' A (castL p) ∧ WayTo (rE r) a p b ∧ ∀ p', WayTo (rE r) a p' b → SLe p p') ∨
  (e = .returned (.tuple #[.slice none 0 0, .bool false]) ∧ ∀ p', ¬ WayTo (rE r) a p' b)
theorem intOf_nat (a : Nat) : (intOf (.int .i64 (a : Int))).toNat = a := by simp [intOf]

set_option maxHeartbeats 8000000 in
theorem RWay_any {w : World} {A : Option Addr} {c n a b : Nat} {r : List Nat} (h : IntsAt w A (castL r)) (hn : r.length = n) (hn20 : n ≤ 20) (ha : a < n) (hb : b < n) (hr : ∀ i, i < n → row r i < 2 ^ 60) :
    Calls Tryd.prog 38 #[.slice A n c, .int .i64 a, .int .i64 b] w fun e w' => WayPost r a b e w' ∧ Below w.heap.size w w' := by
  have HS := Lib.hid (RSteps_any (c := c) h hn hn20 hb hr)
  have HI := Lib.hid h
  have Hr := Lib.hid hr
  have Hn := Lib.hid hn
  clear h hr hn
  go_enter Tryd.func38, Tryd.ntmps38
  go_wp2_with fail
  refine HS.out.mono ?_
  rintro e w1 ⟨⟨g, c1, l, rfl, hD, hown⟩, hb1⟩
  have hll : l.length = n := by rw [hD.len, Hn.out]
  have HD := Lib.hid hD
  have hcl := fun j (hj : j < n) => (own_cellN hown hll hj).1
  have y0 := hcl a ha
  have Hcl := Lib.hid hcl
  have hha := hD.high a
  clear HS hcl
  by_cases h20 : row l a = 20
  · have hno := Lib.hid (show ∀ p', ¬ WayTo (rE r) a p' b from fun p' h' => by
      obtain ⟨k1, k2⟩ := (way_cway h').to
      obtain ⟨k, q1, q2, q3⟩ := k1.few (n := n) ha (fun x y e => by have := e.2.1; have := Hn.out; omega)
      have := HD.out.cov a k (by have := Hn.out; omega) q1
      omega)
    rw [h20] at y0
    clear hD hown hha h20
    go_wp2_with fail
    go_ret2
    exact ⟨.inr ⟨rfl, hno.out⟩, hb1⟩
  · have d20 : (((row l a : Nat) : Int) == 20) = false := beq_eq_false_iff_ne.2 (by omega)
    obtain ⟨full, hfull⟩ := hD.gway (row l a) (a := a) (by have := Hn.out; omega) rfl (by omega)
    have Hfull := Lib.hid hfull
    have Hway := Lib.hid (show WayTo (rE r) a full b from cway_way hfull.way)
    have Hleast := Lib.hid (show ∀ p', WayTo (rE r) a p' b → SLe full p' from fun p' h' => hfull.least HD.out (by have := Hn.out; omega) (way_cway h'))
    have Hlen := Lib.hid (show full.length ≤ 20 by have := hfull.long HD.out (by have := Hn.out; omega); omega)
    have ho2 : OwnI (w1.alloc (.cells #[.int .i64 a] 3)) w1.heap.size (.slice (some ⟨w1.heap.size, 0, none⟩) 1 1) (castL ([] ++ [a])) := ⟨by simp [castL], .inr ⟨w1.heap.size, 1, #[.int .i64 a], rfl, Nat.le_refl _, heap_alloc_new w1 _, by simp [castL], by decide, rfl, by simp [castL]⟩⟩
    have hb2 := (Below.refl w1.heap.size w1).alloc (Nat.le_refl _) (.cells #[.int .i64 a] 3)
    have Hb1 := Lib.hid hb1
    have Ho2 := Lib.hid ho2
    clear hfull hD hown hha h20 ho2
    go_wp2_with fail
    generalize w1.alloc (.cells #[.int .i64 a] 3) = w2 at *
    clear y0 d20
    go_loopw [1, 9] (fun i o wr => ∃ (x : Nat) (done q : List Nat), i = .int .i64 x ∧ x < n ∧ OwnI wr w1.heap.size o (castL (done ++ [x])) ∧ Hid (GWay r b l x q) ∧ Hid (done ++ q = full) ∧ done.length < 20 ∧ Below w1.heap.size w1 wr) (fun i _ _ => row l (intOf i).toNat)
    case atStart => exact ⟨a, [], full, rfl, ha, Ho2.out, Hfull, Lib.hid rfl, by simp, hb2⟩
    case round =>
      clear Ho2 hb2
      obtain ⟨x, done, q, rfl, hx, hown, hG, hdq, hdl, hbr⟩ := hrel
      by_cases hxb : x = b
      · subst hxb
        have hq : q = [x] := by
          have := hG.out
          cases this with
          | here => rfl
          | step e e1 _ _ => have := HD.out.cov x 0 (by have := Hn.out; omega) .here; omega
        have Hres := Lib.hid (show done ++ [x] = full by rw [← hdq.out, hq])
        obtain ⟨A5, c5, hv5, i5⟩ := hown.form
        rw [length_castL] at hv5
        obtain ⟨m, hm⟩ : ∃ m, (done ++ [x]).length = m := ⟨_, rfl⟩
        rw [hm] at hv5
        have Hm := Lib.hid hm
        have Hi5 := Lib.hid i5
        clear hown hG hdq hq hm i5
        subst hv5
        have dxx : (((x : Nat) : Int) != (x : Int)) = false := by simp
        go_wp2_with fail
        go_ret2
        refine ⟨.inl ⟨full, m, A5, c5, by rw [← Hm.out, Hres.out], rfl, by rw [← Hres.out]; exact Hi5.out, Hway.out, Hleast.out⟩, Hb1.out.trans (hbr.mono Hb1.out.size)⟩
      · have dxb : (((x : Nat) : Int) != (b : Int)) = true := bne_iff_ne.2 (fun e => hxb (Int.ofNat.inj e))
        obtain ⟨j, p1, hq, he, hd, hmin, hG1⟩ : ∃ (j : Nat) (p1 : List Nat), q = x :: p1 ∧ rE r x j ∧ row l x = row l j + 1 ∧ (∀ j', j' < j → ¬ (rE r x j' ∧ row l x = row l j' + 1)) ∧ GWay r b l j p1 := by
          have := hG.out
          cases this with
          | here => exact absurd rfl hxb
          | step e e1 e2 e3 => exact ⟨_, _, rfl, e, e1, e2, e3⟩
        have hjn : j < n := by have := he.2.1; have := Hn.out; omega
        have Hj := Lib.hid he
        have Hd := Lib.hid hd
        have Hmin := Lib.hid hmin
        have HG1 := Lib.hid hG1
        have Hdq2 := Lib.hid (show (done ++ [x]) ++ p1 = full by rw [← hdq.out, hq]; simp)
        have Hdl2 := Lib.hid (show (done ++ [x]).length < 20 by
          have h1 := Hlen.out
          rw [← Hdq2.out, List.length_append] at h1
          obtain ⟨q5, e5⟩ := hG1.way.head
          rw [e5] at h1
          simp at h1 ⊢; omega)
        obtain ⟨b1, o1, rfl, z0⟩ := (HI.out.below (Hb1.out.trans (hbr.mono Hb1.out.size))).row (k := x) (by have := Hn.out; omega)
        have hcx : wr.cell? ⟨g, x, none⟩ = some (.int .i64 (row l x : Nat)) := (hbr.cell (p := ⟨g, x, none⟩) (block_lt (Hcl.out x hx))).trans (Hcl.out x hx)
        have hhx := HD.out.high x
        have hrx := Hr.out x hx
        have hown0 := Lib.hid hown
        have hbr0 := Lib.hid hbr
        have hown0' := Lib.hid hown
        obtain ⟨wz, hwz⟩ : ∃ wz, wz = wr := ⟨wr, rfl⟩
        subst hwz
        clear hxb hG hdq hq he hd hmin hG1 hown
        go_wp2_with fail
        go_loopw [10] (fun i wr => ∃ y : Nat, y ≤ j ∧ i = .int .i64 y ∧ Hid (∃ d, wr = wz.drewN d)) (fun i _ => j - (intOf i).toNat)
        case atStart => exact ⟨0, Nat.zero_le _, rfl, Lib.hid ⟨0, rfl⟩⟩
        case round =>
          obtain ⟨y, hy, rfl, hwi⟩ := hrel
          have hyn : y < n := by omega
          have hcy : wz.cell? ⟨g, y, none⟩ = some (.int .i64 (row l y : Nat)) := (hbr.cell (p := ⟨g, y, none⟩) (block_lt (Hcl.out y hyn))).trans (Hcl.out y hyn)
          have hhy := HD.out.high y
          have hcy2 : wr.cell? ⟨g, y, none⟩ = some (.int .i64 (row l y : Nat)) := by obtain ⟨d, rfl⟩ := hwi.out; exact hcy
          have hcx2 : wr.cell? ⟨g, x, none⟩ = some (.int .i64 (row l x : Nat)) := by obtain ⟨d, rfl⟩ := hwi.out; exact hcx
          have hz2 : wr.cell? ⟨b1, o1 + x, none⟩ = some (.int .i64 (row r x : Nat)) := by obtain ⟨d, rfl⟩ := hwi.out; exact z0
          have Hown0 := Lib.hid hown0
          have Hdw := Lib.hid (show ∀ q, ∃ d, wr.drewN q = wz.drewN d from fun q => by obtain ⟨d, rfl⟩ := hwi.out; exact ⟨d + q, by simp only [World.drewN, Nat.add_assoc]⟩)
          cases hbit : (row r x).testBit y with
          | false =>
            have hyj : y < j := by
              rcases Nat.lt_or_ge y j with h1 | h1
              · exact h1
              · obtain rfl : y = j := by omega
                have := Hj.out.2.2; rw [hbit] at this; cases this
            have B1 := Lib.hid (fun V => Bit_is (row r x) y false V (by omega) (by omega) hbit)
            clear hbit hcy hcx z0
            generalize row r x = rx at *
            generalize row l x = lx at *
            generalize row l y = ly at *
            go_wp2_with fail
            go_quiet (first | (with_reducible exact quiet1 (B1.out _)) | (with_reducible exact quiet2 (B1.out _)))
            go_wp2_with fail
            refine ⟨⟨y + 1, hyj, ?yb, Lib.hid (Hdw.out _)⟩, ?yd⟩
            case yb => go_num
            case yd => simp [intOf]; omega
          | true =>
            have B1 := Lib.hid (fun V => Bit_is (row r x) y true V (by omega) (by omega) hbit)
            by_cases hyj : y < j
            · have hne : row l x ≠ row l y + 1 := fun e => Hmin.out y hyj ⟨⟨by have := Hn.out; omega, by have := Hn.out; omega, hbit⟩, e⟩
              have dt : (((row l y : Nat) : Int) != ((row l x : Nat) : Int) - 1) = true := bne_iff_ne.2 (by omega)
              clear hbit hcy hcx z0
              generalize row r x = rx at *
              generalize row l x = lx at *
              generalize row l y = ly at *
              go_wp2_with fail
              go_quiet (first | (with_reducible exact quiet1 (B1.out _)) | (with_reducible exact quiet2 (B1.out _)))
              go_wp2_with fail
              refine ⟨⟨y + 1, hyj, ?yb, Lib.hid (Hdw.out _)⟩, ?yd⟩
              case yb => go_num
              case yd => simp [intOf]; omega
            · obtain rfl : y = j := by omega
              have hle : 1 ≤ row l x := by have := Hd.out; omega
              have dt : (((row l y : Nat) : Int) != ((row l x : Nat) : Int) - 1) = false := by rw [Hd.out]; simp
              have hown1 : OwnI wr w1.heap.size u9 (castL (done ++ [x])) := by obtain ⟨d, rfl⟩ := hwi.out; exact hown0.drewN d
              have hbw : Below w1.heap.size w1 wr := by obtain ⟨d, rfl⟩ := hwi.out; exact belowD hbr d
              have HB := Lib.hid hbw
              have HO := Lib.hid hown1
              clear hbit hcy hcx z0 hown1 hbw hbr hown0 hown0' hbr0
              go_wp2_with fail
              go_quiet (first | (with_reducible exact quiet1 (B1.out _)) | (with_reducible exact quiet2 (B1.out _)))
              have ho3 : OwnI (wr.drewN nq) w1.heap.size u9 (castL (done ++ [x])) := HO.out.drewN nq
              have hb3 : Below w1.heap.size w1 (wr.drewN nq) := belowD HB.out nq
              clear HO HB Hdw hwi hcy2 hcx2 hz2 dt B1
              generalize wr.drewN nq = wq at *
              have hs3 := hb3.size
              have hl3 : (castL (done ++ [x])).length < 2 ^ 40 := by rw [length_castL]; have := Hdl2.out; omega
              go_wp2_with (at_builtin; refine wpList_push_int rfl _ _ rfl (base := w1.heap.size) (v := u9) rfl (ho3.next ((Below.refl _ wq).alloc (Nat.le_refl _) _)) wq.heap.size (y : Int) rfl (cell_of_row _ _ 0 _ _ _ (heap_alloc_new wq _)) hl3 (by simp; omega) ?_; intro v2 w4 ho4 hg4 hv4 hbl4; have hb4 := hbl4 _ (hb3.alloc hs3 (.cells #[.int .i64 y] 3)))
              refine ⟨⟨y, done ++ [x], p1, ?ya, hjn, ?yc, HG1, Hdq2, Hdl2, hb4⟩, ?yd⟩
              case ya => go_num
              case yc => rw [castL_append]; exact ho4
              case yd => simp [intOf]; have := Hd.out; omega
end Go.Proofs.YtpfmllpodjcldaaDoor

namespace Go.Proofs.YtpfmllpodjcldaaDoor
open Go.RowKit
set_option maxRecDepth 100000
set_option linter.unusedVariables false

theorem lex_row : ∀ (p q : List Nat) (i : Nat), p.length = q.length → i < p.length → (∀ j, j < i → row p j = row q j) → row p i ≠ row q i → (lexLt p q ↔ row p i < row q i)
  | [], _, _, _, h, _, _ => by simp at h
  | _ :: _, [], _, h, _, _, _ => by simp at h
  | a :: p, b :: q, 0, _, _, _, hne => by
    have h1 : a ≠ b := hne
    show (a < b ∨ a = b ∧ lexLt p q) ↔ a < b
    exact ⟨fun h => h.elim id (fun h => absurd h.1 h1), .inl⟩
  | a :: p, b :: q, i + 1, hl, hi, he, hne => by
    have h1 : a = b := he 0 (by omega)
    have h2 := lex_row p q i (by simpa using hl) (by simpa using hi) (fun j hj => he (j + 1) (by omega)) hne
    show (a < b ∨ a = b ∧ lexLt p q) ↔ row p i < row q i
    rw [← h2]
    exact ⟨fun h => h.elim (fun h => by omega) (fun h => h.2), fun h => .inr ⟨h1, h⟩⟩
theorem rows_eq : ∀ (p q : List Nat), p.length = q.length → (∀ j, j < p.length → row p j = row q j) → p = q
  | [], [], _, _ => rfl
  | [], _ :: _, h, _ => by simp at h
  | _ :: _, [], h, _ => by simp at h
  | a :: p, b :: q, h, he => by
    have h1 : a = b := he 0 (by simp)
    rw [h1, rows_eq p q (by simpa using h) (fun j hj => he (j + 1) (by simpa using hj))]

set_option maxHeartbeats 4000000 in
theorem Less3_any {w : World} {A B : Option Addr} {c d n m : Nat} {p q : List Nat} (hA : IntsAt w A (castL p)) (hB : IntsAt w B (castL q)) (hp : p.length = n) (hq : q.length = m) (hn : n < 2 ^ 40) (hm : m < 2 ^ 40) {r : Bool} (hr : r = true ↔ q = [] ∨ SL p q) :
    Calls Tryd.prog 39 #[.slice A n c, .slice B m d] w fun e w' => e = .returned (.bool r) ∧ Below w.heap.size w w' := by
  have Hp := Lib.hid hp
  have Hq := Lib.hid hq
  by_cases h0 : m = 0
  · subst h0
    obtain rfl : r = true := hr.2 (.inl (List.length_eq_zero_iff.1 hq))
    clear hA hB hp hq hr
    go_enter Tryd.func39, Tryd.ntmps39
    go_wp2_with fail
    go_ret
    exact ⟨rfl, Below.refl _ _⟩
  have dm : ((m : Int) == 0) = false := beq_eq_false_iff_ne.2 (by omega)
  have hqn : q ≠ [] := by rintro rfl; simp at hq; omega
  by_cases h1 : n < m
  · obtain rfl : r = true := hr.2 (.inr (.inl (by omega)))
    clear hA hB hp hq h0 hr
    go_enter Tryd.func39, Tryd.ntmps39
    go_wp2_with fail
    go_ret
    exact ⟨rfl, Below.refl _ _⟩
  by_cases h2 : m < n
  · obtain rfl : r = false := Bool.eq_false_iff.2 (fun h => (hr.1 h).elim (fun h => absurd h hqn) (fun h => (by unfold SL at h; omega)))
    have d2 : decide ((n : Int) > (m : Int)) = true := by simp; omega
    clear hA hB hp hq h0 hr
    go_enter Tryd.func39, Tryd.ntmps39
    go_wp2_with fail
    go_ret
    exact ⟨rfl, Below.refl _ _⟩
  obtain rfl : n = m := by omega
  have HA := Lib.hid hA
  have HB := Lib.hid hB
  have HR := Lib.hid hr
  have Hqn := Lib.hid hqn
  clear hA hB hp hq h0 h1 h2 hqn hr
  go_enter Tryd.func39, Tryd.ntmps39
  go_wp2_with fail
  go_loopw [5] (fun i wr => ∃ k : Nat, k ≤ n ∧ i = .int .i64 k ∧ Hid (∀ j, j < k → row p j = row q j) ∧ Below w.heap.size w wr) (fun i _ => n - (intOf i).toNat)
  case atStart => exact ⟨0, Nat.zero_le _, rfl, Lib.hid (fun j hj => by omega), Below.refl _ _⟩
  case round =>
    obtain ⟨k, hk, rfl, he, hbr⟩ := hrel
    by_cases hlt : k < n
    · obtain ⟨b1, o1, rfl, y0⟩ := (HA.out.below hbr).row (k := k) (by have := Hp.out; omega)
      obtain ⟨b2, o2, rfl, z0⟩ := (HB.out.below hbr).row (k := k) (by have := Hq.out; omega)
      have Hlex := Lib.hid (fun hne => lex_row p q k (by rw [Hp.out, Hq.out]) (by have := Hp.out; omega) he.out hne)
      have Hstep := Lib.hid (fun (h : row p k = row q k) => show ∀ j, j < k + 1 → row p j = row q j from fun j hj => by
        rcases Nat.lt_or_ge j k with h1 | h1
        · exact he.out j h1
        · obtain rfl : j = k := by omega
          exact h)
      generalize row p k = x at *
      generalize row q k = y at *
      by_cases hxy : x = y
      · subst hxy
        have Hs := Lib.hid (Hstep.out rfl)
        have dx : ((x : Int) != (x : Int)) = false := by simp
        clear Hstep Hlex
        go_wp2_with fail
        go_quiet (fail)
        go_wp2_with fail
        refine ⟨⟨k + 1, ?ya, ?yb, Hs, belowD hbr _⟩, ?yd⟩
        case ya => omega
        case yb => go_num
        case yd => simp [intOf]; omega
      · have dx : ((x : Int) != (y : Int)) = true := bne_iff_ne.2 (fun e => hxy (Int.ofNat.inj e))
        have hl : decide (x < y) = r := by
          have h3 := Hlex.out hxy
          cases r with
          | true =>
            rcases HR.out.1 rfl with h | h | h
            · exact absurd h Hqn.out
            · rw [Hp.out, Hq.out] at h; omega
            · exact decide_eq_true (by have := h3.1 h.2; omega)
          | false =>
            refine decide_eq_false (fun h => ?_)
            have := HR.out.2 (.inr (.inr ⟨by rw [Hp.out, Hq.out], h3.2 (by omega)⟩))
            cases this
        have Hl := Lib.hid hl
        clear Hstep Hlex hxy hl
        go_wp2_with fail
        go_quiet (fail)
        go_wp2_with fail
        go_quiet (fail)
        go_wp2_with fail
        go_ret
        exact ⟨ret_bool Hl.out, belowD (belowD hbr _) _⟩
    · obtain rfl : k = n := by omega
      obtain rfl : r = false := Bool.eq_false_iff.2 (fun h => (HR.out.1 h).elim (fun h => absurd h Hqn.out) (fun h => (by
        rw [rows_eq p q (by rw [Hp.out, Hq.out]) (fun j hj => he.out j (by have := Hp.out; omega))] at h; exact absurd h (SL.irrefl q))))
      go_wp2_with fail
      go_ret
      exact ⟨rfl, hbr⟩
end Go.Proofs.YtpfmllpodjcldaaDoor

namespace Go.Proofs.YtpfmllpodjcldaaDoor
open Go.RowKit
set_option maxRecDepth 100000
set_option linter.unusedVariables false

def lkd (L : List (List Int)) (i j : Nat) : Prop := ¬ gN L i j % 4 = 0 ∨ ¬ gN L j i % 4 = 0
instance (L : List (List Int)) (i j : Nat) : Decidable (lkd L i j) := by unfold lkd; exact inferInstance
/-- The set of those of the first k with which i is linked. -/
def lk (L : List (List Int)) (i : Nat) : Nat → Nat
  | 0 => 0
  | k + 1 => lk L i k + if lkd L i k then 2 ^ k else 0
theorem lk_lt (L : List (List Int)) (i : Nat) : ∀ k, lk L i k < 2 ^ k
  | 0 => by rw [lk]; decide
  | k + 1 => by
    have := lk_lt L i k
    rw [lk, Nat.pow_succ]
    split <;> omega
theorem lk_bit (L : List (List Int)) (i j : Nat) : ∀ k, (lk L i k).testBit j = decide (j < k ∧ lkd L i j)
  | 0 => by rw [lk, Nat.zero_testBit]; simp
  | k + 1 => by
    have h0 := lk_lt L i k
    have ih := lk_bit L i j k
    rw [lk]
    by_cases h : lkd L i k
    · have h7 := Nat.two_pow_add_eq_or_of_lt h0 1
      rw [Nat.mul_one] at h7
      rw [if_pos h, Nat.add_comm, h7, Nat.testBit_or, Nat.testBit_two_pow, ih]
      by_cases e : k = j
      · subst e; simp [h]
      · have : (j < k + 1) = (j < k) := by apply propext; omega
        simp [e, this]
    · rw [if_neg h, Nat.add_zero, ih]
      by_cases e : k = j
      · subst e; simp [h]
      · have : (j < k + 1) = (j < k) := by apply propext; omega
        simp [this]
theorem mod_tg : ∀ a, a < 8 → ((¬ a % 4 = 0) ↔ (a.testBit 0 = true ∨ a.testBit 1 = true)) := by decide
def linkL (L : List (List Int)) : List Nat := (List.range L.length).map fun i => lk L i L.length
theorem length_linkL (L : List (List Int)) : (linkL L).length = L.length := by simp [linkL]
theorem row_linkL {L : List (List Int)} {i : Nat} (h : i < L.length) : row (linkL L) i = lk L i L.length := by simp [row, linkL, h]
theorem rE_linkL {L : List (List Int)} (hg : GOk L) (i j : Nat) : rE (linkL L) i j ↔ gE L i j := by
  unfold rE
  rw [length_linkL]
  constructor
  · rintro ⟨h1, h2, h3⟩
    rw [row_linkL h1, lk_bit] at h3
    have h4 := (of_decide_eq_true h3).2
    exact ⟨h1, h2, h4.elim (fun h => .inl ((mod_tg _ (hg.lt h1 h2)).1 h)) (fun h => .inr ((mod_tg _ (hg.lt h2 h1)).1 h))⟩
  · rintro ⟨h1, h2, h3⟩
    refine ⟨h1, h2, ?_⟩
    rw [row_linkL h1, lk_bit]
    exact decide_eq_true ⟨h2, h3.elim (fun h => .inl ((mod_tg _ (hg.lt h1 h2)).2 h)) (fun h => .inr ((mod_tg _ (hg.lt h2 h1)).2 h))⟩
theorem range_push (f : Nat → Nat) (k : Nat) : castL ((List.range (k + 1)).map f) = castL ((List.range k).map f) ++ [((f k : Nat) : Int)] := by rw [List.range_succ, List.map_append, castL_append]; rfl

set_option maxHeartbeats 8000000 in
theorem Links_any {w : World} {A : Option Addr} {c n : Nat} {L : List (List Int)} (hL : RowsIn anyB 1 w A L) (hn : L.length = n) (hg : GOk L) :
    Calls Tryd.prog 37 #[.slice A n c] w fun e w' => (∃ A' c', e = .returned (.slice A' n c') ∧ IntsAt w' A' (castL (linkL L))) ∧ Below w.heap.size w w' := by
  have hn20 : n ≤ 20 := by have := hg.few; omega
  have HL := Lib.hid hL
  have Hn := Lib.hid hn
  have Hg := Lib.hid hg
  have Hp := Lib.hid (show ∀ (j : Nat) (V : World), j < n → Calls Tryd.prog 58 #[.int .i64 j] V fun e w' => e = .returned (.int .i64 (2 ^ j : Nat)) ∧ V = w' from fun j V hj => Pow2_any j V (by omega))
  clear hL hn hg
  go_enter Tryd.func37, Tryd.ntmps37
  go_wp2_with fail
  go_loopw [3, 4] (fun v i wr => ∃ k : Nat, k ≤ n ∧ i = .int .i64 k ∧ OwnI wr w.heap.size v (castL ((List.range k).map fun i => lk L i n)) ∧ Below w.heap.size w wr) (fun _ i _ => n - (intOf i).toNat)
  case atStart => exact ⟨0, Nat.zero_le _, rfl, OwnI.nil _ _, Below.refl _ _⟩
  case round =>
    obtain ⟨k, hk, rfl, hown, hbr⟩ := hrel
    by_cases hkn : k < n
    · have hown := Lib.hid hown
      have hbr := Lib.hid hbr
      go_wp2_with fail
      go_loopw [5, 6] (fun r j wo => ∃ m : Nat, m ≤ n ∧ j = .int .i64 m ∧ r = .int .i64 (lk L k m : Nat) ∧ wr = wo) (fun _ j _ => n - (intOf j).toNat)
      case atStart => exact ⟨0, Nat.zero_le _, rfl, rfl, rfl⟩
      case round =>
        obtain ⟨m, hm, rfl, rfl, hwo⟩ := hrel
        subst hwo
        by_cases hmn : m < n
        · obtain ⟨b, off, b1, off1, c1, rfl, x0, x1⟩ := row_int Hg.out (HL.out.below hbr.out) Hn.out hkn
          obtain ⟨b2, off2, c2, x2, x3⟩ := row_int2 Hg.out (HL.out.below hbr.out) Hn.out hmn
          have y1 := x1 m hmn
          have y2 := x3 k hkn
          have h81 := Hg.out.lt (x := k) (y := m) (by have := Hn.out; omega) (by have := Hn.out; omega)
          have h82 := Hg.out.lt (x := m) (y := k) (by have := Hn.out; omega) (by have := Hn.out; omega)
          have Hlk := Lib.hid (show lk L k (m + 1) = lk L k m + if (¬ gN L k m % 4 = 0 ∨ ¬ gN L m k % 4 = 0) then 2 ^ m else 0 from rfl)
          have hlt := lk_lt L k m
          have hp60 : 2 ^ m ≤ 2 ^ 20 := Nat.pow_le_pow_right (by decide) (by omega)
          have P := Lib.hid (fun V => Hp.out m V hmn)
          clear x1 x3
          generalize gN L k m = g1 at *
          generalize gN L m k = g2 at *
          generalize lk L k m = q at *
          generalize 2 ^ m = pm at *
          by_cases h1 : g1 % 4 = 0
          · have d1 : ((g1 : Int) % 4 != 0) = false := by have : (g1 : Int) % 4 = 0 := by omega
                                                          simp [this]
            by_cases h2 : g2 % 4 = 0
            · have d2 : ((g2 : Int) % 4 != 0) = false := by have : (g2 : Int) % 4 = 0 := by omega
                                                            simp [this]
              have Hl := Lib.hid (show lk L k (m + 1) = q by rw [Hlk.out, if_neg (fun h => h.elim (fun h => h h1) (fun h => h h2)), Nat.add_zero])
              clear h1 h2 Hlk
              go_wp2_with fail
              refine ⟨⟨m + 1, ?ya, ?yb, ?yc, trivial⟩, ?yd⟩
              case ya => omega
              case yb => go_num
              case yc => rw [Hl.out]
              case yd => simp [intOf]; omega
            · have d2 : ((g2 : Int) % 4 != 0) = true := bne_iff_ne.2 (by omega)
              have Hl := Lib.hid (show lk L k (m + 1) = q + pm by rw [Hlk.out, if_pos (.inr h2)])
              clear h1 h2 Hlk
              go_wp2_with (go_at_call 58; with_reducible refine (P.out _).mono ?_; rintro e w' ⟨rfl, rfl⟩)
              refine ⟨⟨m + 1, ?ya, ?yb, ?yc, trivial⟩, ?yd⟩
              case ya => omega
              case yb => go_num
              case yc => rw [Hl.out]; go_num
              case yd => simp [intOf]; omega
          · have d1 : ((g1 : Int) % 4 != 0) = true := bne_iff_ne.2 (by omega)
            have Hl := Lib.hid (show lk L k (m + 1) = q + pm by rw [Hlk.out, if_pos (.inl h1)])
            clear h1 Hlk
            go_wp2_with (go_at_call 58; with_reducible refine (P.out _).mono ?_; rintro e w' ⟨rfl, rfl⟩)
            refine ⟨⟨m + 1, ?ya, ?yb, ?yc, trivial⟩, ?yd⟩
            case ya => omega
            case yb => go_num
            case yc => rw [Hl.out]; go_num
            case yd => simp [intOf]; omega
        · obtain rfl : m = n := by omega
          have hlt : lk L k m < 2 ^ 62 := Nat.lt_of_lt_of_le (lk_lt L k m) (Nat.pow_le_pow_right (by decide) (by omega))
          have ho3 := hown.out
          have hb3 := hbr.out
          have hs3 := hb3.size
          have hl3 : (castL ((List.range k).map fun i => lk L i m)).length < 2 ^ 40 := by simp [castL]; omega
          have Hp2 := Lib.hid (range_push (fun i => lk L i m) k)
          generalize lk L k m = q at *
          go_wp2_with (at_builtin; refine wpList_push_int rfl _ _ rfl (base := w.heap.size) (v := u3) rfl (ho3.next ((Below.refl _ wr).alloc (Nat.le_refl _) _)) wr.heap.size (q : Int) rfl (cell_of_row _ _ 0 _ _ _ (heap_alloc_new wr _)) hl3 (by simp; omega) ?_; intro v2 w4 ho4 hg4 hv4 hbl4; have hb4 := hbl4 _ (hb3.alloc hs3 (.cells #[.int .i64 q] 3)))
          refine ⟨⟨k + 1, ?ya, ?yb, ?yc, hb4⟩, ?yd⟩
          case ya => omega
          case yb => go_num
          case yc => rw [Hp2.out]; exact ho4
          case yd => simp [intOf]; omega
    · obtain rfl : k = n := by omega
      obtain ⟨A9, c9, hv9, hi9⟩ := hown.form
      have Hlen := Lib.hid (show linkL L = (List.range k).map (fun i => lk L i k) by unfold linkL; rw [Hn.out])
      rw [length_castL, List.length_map, List.length_range] at hv9
      subst hv9
      rw [← Hlen.out] at hi9
      go_wp2_with fail
      go_ret
      exact ⟨⟨A9, c9, rfl, hi9⟩, hbr⟩
end Go.Proofs.YtpfmllpodjcldaaDoor

namespace Go.Proofs.YtpfmllpodjcldaaDoor
open Go.RowKit
set_option maxRecDepth 100000
set_option linter.unusedVariables false

/-- The best of the first k. -/
def Best (L : List (List Int)) (kb who over k : Nat) (p : List Nat) : Prop :=
  (p = [] ∧ ∀ p' x', x' < k → WayTo (gE L) who p' x' → ¬ gGood L kb over x') ∨
  (∃ x, WayTo (gE L) who p x ∧ gGood L kb over x ∧ ∀ p' x', x' < k → WayTo (gE L) who p' x' → gGood L kb over x' → SLe p p')
section
variable {L : List (List Int)} {kb who over k : Nat} {p q : List Nat}
theorem Best.zero : Best L kb who over 0 [] := .inl ⟨rfl, fun _ _ h => by omega⟩
theorem Best.skip (h : Best L kb who over k q) (hno : ∀ p', WayTo (gE L) who p' k → ¬ gGood L kb over k) : Best L kb who over (k + 1) q := by
  rcases h with ⟨h1, h2⟩ | ⟨x, h1, h2, h3⟩
  · refine .inl ⟨h1, fun p' x' hx hw => ?_⟩
    rcases Nat.lt_or_ge x' k with h | h
    · exact h2 p' x' h hw
    · obtain rfl : x' = k := by omega
      exact hno p' hw
  · refine .inr ⟨x, h1, h2, fun p' x' hx hw hg => ?_⟩
    rcases Nat.lt_or_ge x' k with h | h
    · exact h3 p' x' h hw hg
    · obtain rfl : x' = k := by omega
      exact absurd hg (hno p' hw)
theorem Best.take (h : Best L kb who over k q) (hw : WayTo (gE L) who p k) (hl : ∀ p', WayTo (gE L) who p' k → SLe p p') (hg : gGood L kb over k) (hlt : q = [] ∨ SL p q) : Best L kb who over (k + 1) p := by
  refine .inr ⟨k, hw, hg, fun p' x' hx hw' hg' => ?_⟩
  rcases Nat.lt_or_ge x' k with h4 | h4
  · rcases h with ⟨h1, h2⟩ | ⟨x, h1, h2, h3⟩
    · exact absurd hg' (h2 p' x' h4 hw')
    · rcases hlt with rfl | hlt
      · have := h1.pos; simp at this
      · exact (hlt.trans_le (h3 p' x' h4 hw' hg')).le
  · obtain rfl : x' = k := by omega
    exact hl p' hw'
theorem Best.keep (h : Best L kb who over k q) (hw : WayTo (gE L) who p k) (hl : ∀ p', WayTo (gE L) who p' k → SLe p p') (hlt : ¬ (q = [] ∨ SL p q)) : Best L kb who over (k + 1) q := by
  have hqp : SLe q p := by
    rcases SL.total p q with h1 | h1 | h1
    · exact h1 ▸ SLe.refl _
    · exact absurd (.inr h1) hlt
    · exact h1.le
  rcases h with ⟨h1, h2⟩ | ⟨x, h1, h2, h3⟩
  · exact absurd (.inl h1) hlt
  · refine .inr ⟨x, h1, h2, fun p' x' hx hw' hg' => ?_⟩
    rcases Nat.lt_or_ge x' k with h4 | h4
    · exact h3 p' x' h4 hw' hg'
    · obtain rfl : x' = k := by omega
      exact hqp.trans (hl p' hw')
end

set_option maxHeartbeats 8000000 in
theorem RChain_ok {w : World} {A : Option Addr} {c n : Nat} {L : List (List Int)} (hL : RowsIn anyB 1 w A L) (hn : L.length = n) (hg : GOk L) {kb who over : Nat} (hk : kb < 3) (hw : who < n) (ho : over < n) :
    Calls Tryd.prog 14 #[.slice A n c, .int .i64 (2 ^ kb : Nat), .int .i64 who, .int .i64 over] w fun e w' => (∃ A' m c' p, e = .returned (.slice A' m c') ∧ m = p.length ∧ IntsAt w' A' (castL p) ∧ Best L kb who over n p) ∧ Below w.heap.size w w' := by
  have hn20 : n ≤ 20 := by have := hg.few; omega
  have HK := Lib.hid (Links_any (c := c) hL hn hg)
  have HL := Lib.hid hL
  have Hn := Lib.hid hn
  have Hg := Lib.hid hg
  have HE := Lib.hid (show rE (linkL L) = gE L from funext fun i => funext fun j => propext (rE_linkL hg i j))
  have Hrow := Lib.hid (show ∀ i, i < n → row (linkL L) i < 2 ^ 60 from fun i hi => by
    rw [row_linkL (by omega)]
    exact Nat.lt_of_lt_of_le (lk_lt L i L.length) (Nat.pow_le_pow_right (by decide) (by omega)))
  have Hlen := Lib.hid (show (linkL L).length = n by rw [length_linkL, hn])
  have Hwp := Lib.hid (fun x b (h : x.testBit kb = b) => within_pow (x := x) (kb := kb) h)
  have Hp62 := Lib.hid (show 2 ^ kb < 2 ^ 62 from Nat.pow_lt_pow_right (by decide) (by omega))
  obtain ⟨r, hr⟩ : ∃ r, 2 ^ kb = r := ⟨_, rfl⟩
  rw [hr] at Hwp Hp62 ⊢
  clear hL hn hg hr hk
  go_enter Tryd.func14, Tryd.ntmps14
  go_wp2_with fail
  refine HK.out.mono ?_
  rintro e w1 ⟨⟨Ak, ck, rfl, ik⟩, hb1⟩
  have Hik := Lib.hid ik
  clear HK ik
  go_wp2_with fail
  go_loopw [10, 11] (fun v i wr => ∃ (k : Nat) (A' : Option Addr) (m c' : Nat) (p : List Nat), k ≤ n ∧ i = .int .i64 k ∧ v = .slice A' m c' ∧ Hid (m = p.length) ∧ m ≤ 20 ∧ IntsAt wr A' (castL p) ∧ Hid (Best L kb who over k p) ∧ Below w1.heap.size w1 wr) (fun _ i _ => n - (intOf i).toNat)
  case atStart => exact ⟨0, none, 0, 0, [], Nat.zero_le _, rfl, rfl, Lib.hid rfl, by omega, IntsAt.nil, Lib.hid Best.zero, Below.refl _ _⟩
  case round =>
    obtain ⟨k, A', m, c', q, hk, rfl, rfl, hmq, hm20, hi, hB, hbr⟩ := hrel
    have hbw := hb1.trans (hbr.mono hb1.size)
    by_cases hkn : k < n
    · obtain ⟨b, off, b1, off1, c1, rfl, x0, x1⟩ := row_int Hg.out (HL.out.below hbw) Hn.out hkn
      have y1 := x1 over ho
      have h81 := Hg.out.lt (x := k) (y := over) (by have := Hn.out; omega) (by have := Hn.out; omega)
      have HRW := Lib.hid (RWay_any (c := ck) (Hik.out.below hbr) Hlen.out hn20 hw hkn Hrow.out)
      clear x1
      cases hbit : (gN L k over).testBit kb with
      | false =>
        have HW := Lib.hid (fun V => Within_is r (gN L k over) false V Hp62.out (by omega) (Hwp.out _ _ hbit))
        have HB2 := Lib.hid (hB.out.skip (fun p' _ h => by unfold gGood at h; rw [hbit] at h; cases h))
        clear HRW hbit
        generalize gN L k over = g1 at *
        go_wp2_with (go_at_call 29; with_reducible refine (HW.out _).mono ?_; rintro e w' ⟨rfl, rfl⟩)
        refine ⟨⟨k + 1, A', m, c', q, ?ya, ?yb, rfl, hmq, hm20, hi, HB2, hbr⟩, ?yd⟩
        case ya => omega
        case yb => go_num
        case yd => simp [intOf]; omega
      | true =>
        have HW := Lib.hid (fun V => Within_is r (gN L k over) true V Hp62.out (by omega) (Hwp.out _ _ hbit))
        have Hgood := Lib.hid (show gGood L kb over k from hbit)
        have Hi := Lib.hid hi
        have Hbr := Lib.hid hbr
        clear hbit hi hbr
        generalize gN L k over = g1 at *
        go_wp2_with (go_at_call 29; with_reducible refine (HW.out _).mono ?_; rintro e w' ⟨rfl, rfl⟩)
        refine HRW.out.mono ?_
        rintro e w2 ⟨hp, hb2⟩
        have hbr2 := Hbr.out.trans (hb2.mono Hbr.out.size)
        unfold WayPost at hp
        rw [HE.out] at hp
        rcases hp with ⟨p, mp, Ap, cp, hmp, rfl, ip, hway, hleast⟩ | ⟨rfl, hno⟩
        · have hmp20 : mp ≤ 20 := by
            have h1 := nodup_le (least_nodup (good := fun x => x = k) hway rfl (fun p' x' h e => by subst e; exact hleast p' h)) (way_lt hw (fun x y h => by have := h.2.1; have := Hn.out; omega) hway)
            omega
          have Hmp := Lib.hid hmp
          have i2 := Hi.out.below hb2
          obtain ⟨rb, hrb⟩ : ∃ rb : Bool, rb = true ↔ q = [] ∨ SL p q := by
            by_cases h : q = [] ∨ SL p q
            · exact ⟨true, fun _ => h, fun _ => rfl⟩
            · exact ⟨false, fun e => (by cases e), fun e => absurd e h⟩
          have H3 := Lib.hid (Less3_any (c := cp) (d := c') ip i2 hmp.symm hmq.out.symm (by omega) (by omega) hrb)
          have Hip := Lib.hid ip
          have Hi2 := Lib.hid i2
          cases rb with
          | true =>
            have HB2 := Lib.hid (hB.out.take hway hleast Hgood.out (hrb.1 rfl))
            clear hmp ip i2 hrb hway hleast HRW HW
            go_wp2_with (go_at_call 39; with_reducible refine H3.out.mono ?_; rintro e w3 ⟨rfl, hb3⟩)
            refine ⟨⟨k + 1, Ap, mp, cp, p, ?ya, ?yb, rfl, Hmp, hmp20, Hip.out.below hb3, HB2, hbr2.trans (hb3.mono hbr2.size)⟩, ?yd⟩
            case ya => omega
            case yb => go_num
            case yd => simp [intOf]; omega
          | false =>
            have HB2 := Lib.hid (hB.out.keep hway hleast (fun h => by have := hrb.2 h; cases this))
            clear hmp ip i2 hrb hway hleast HRW HW
            go_wp2_with (go_at_call 39; with_reducible refine H3.out.mono ?_; rintro e w3 ⟨rfl, hb3⟩)
            refine ⟨⟨k + 1, A', m, c', q, ?ya, ?yb, rfl, hmq, hm20, Hi2.out.below hb3, HB2, hbr2.trans (hb3.mono hbr2.size)⟩, ?yd⟩
            case ya => omega
            case yb => go_num
            case yd => simp [intOf]; omega
        · have HB2 := Lib.hid (hB.out.skip (fun p' h => absurd h (hno p')))
          have i2 := Hi.out.below hb2
          clear hno HRW HW
          go_wp2_with fail
          refine ⟨⟨k + 1, A', m, c', q, ?ya, ?yb, rfl, hmq, hm20, i2, HB2, hbr2⟩, ?yd⟩
          case ya => omega
          case yb => go_num
          case yd => simp [intOf]; omega
    · obtain rfl : k = n := by omega
      go_wp2_with fail
      go_ret
      exact ⟨⟨A', m, c', q, rfl, hmq.out, hi, hB.out⟩, hbw⟩
end Go.Proofs.YtpfmllpodjcldaaDoor
