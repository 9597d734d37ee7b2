/-
  The document's reader of programs: readList; plain words ahead of it.
-/
import Derived.Test.YtfpghfmdkbdojaaGreatDoorPsE
import Derived.Test.YtfpghfmdkbdojaaGreatDoorStillD
import Derived.Deep.LoopGhost
namespace Go.Proofs.YtfpghfmdkbdojaaGreatDoor
open Go.RowKit
set_option maxRecDepth 100000
set_option linter.unusedVariables false

/-- Deeds that were read ahead, the last one first: each is put ahead of what is there. -/
def foldR : List Int → PR → PR
  | [], r => r
  | a :: l, r => foldR l (r.andThen fun b l o => mk5 l o 7 0 a b 0)
theorem foldR_bad : ∀ (l : List Int) (k : Nat), foldR l (.bad k) = .bad k
  | [], _ => rfl
  | _ :: l, k => foldR_bad l k
def muL (s : ByteArray) (p e : Nat) : Nat := if e = 0 then s.size - p + 1 else 0
theorem muL_le (s : ByteArray) (p e : Nat) (hs : s.size ≤ 300) : muL s p e ≤ 301 := by unfold muL; split <;> omega
/-- How far a list was read. -/
structure ListInv (s : ByteArray) (f : Nat) (total : PR) (L : List Int) (p e : Nat) (o : List Int) : Prop where
  bad : e ≠ 0 → total = .bad e
  good : e = 0 → s.size - p < f + 1 - L.length ∧ ((L = [] ∧ total = pList (f + 1) (s.data.toList.drop p) o) ∨ ∃ (rest : List Int) (a : Nat), L = rest ++ [(a : Int)] ∧
    total = foldR rest.reverse (if endsL (s.data.toList.drop p) = true then .good a (s.data.toList.drop p) o else (pList (f + 1 - L.length) (s.data.toList.drop p) o).andThen fun b l o => mk5 l o 7 0 a b 0))
theorem listInv_start {s : ByteArray} {f p e : Nat} {total : PR} {o : List Int} (h : at0 e (pList (f + 1) (s.data.toList.drop p) o) = total) (hf : e = 0 → s.size - p < f + 1) : ListInv s f total [] p e o :=
  ⟨fun he => by rw [← h, at0_bad he], fun he => ⟨by simpa using hf he, .inl ⟨rfl, by rw [← h, he, at0_zero]⟩⟩⟩
theorem pList_not {f : Nat} {l : List UInt8} {o : List Int} (h : endsL l = false) : pList (f + 1) l o = (pOne (pValue f) (pList f) l o).andThen fun a l1 o1 => if endsL l1 = true then .good a l1 o1 else (pList f l1 o1).andThen fun b l2 o2 => mk5 l2 o2 7 0 a b 0 := by
  rw [pList, if_neg (by rw [h]; decide)]
theorem pList_ends {f : Nat} {l : List UInt8} {o : List Int} (h : endsL l = true) : pList (f + 1) l o = mk5 l o 5 0 0 0 0 := by
  rw [pList, if_pos h]
theorem ends_not {s : ByteArray} {p e : Nat} (h : (decide (e ≠ 0) || endsL (s.data.toList.drop p)) = false) : e = 0 ∧ endsL (s.data.toList.drop p) = false ∧ p < s.size := by
  rw [Bool.or_eq_false_iff] at h
  refine ⟨by simpa using h.1, h.2, ?_⟩
  rcases Nat.lt_or_ge p s.size with h2 | h2
  · exact h2
  · rw [ends_end (by omega)] at h; cases h.2
theorem psR_shorter {s : ByteArray} {V : List UInt8 → List Int → PR} (hV : ∀ {l : List UInt8} {o : List Int} {i : Nat} {l' : List UInt8} {o' : List Int}, V l o = .good i l' o' → l'.length < l.length) {p e p2 e2 : Nat} {o o2 : List Int} {i2 : Int} (hp : p ≤ s.size) (hp2 : p2 ≤ s.size) (h : PsR s (at0 e (V (s.data.toList.drop p) o)) p2 e2 o2 i2) (h2 : e2 = 0) : e = 0 ∧ p < p2 := by
  by_cases he : e = 0
  · have h3 := psR_goods h he
    cases hv : V (s.data.toList.drop p) o with
    | bad k => rw [hv] at h3; have := psR_bad h3; omega
    | good j l o' =>
      rw [hv] at h3
      obtain ⟨_, _, hl, _⟩ := psR_good h3
      have := hV hv
      rw [← hl, List.length_drop, List.length_drop] at this
      have hsz : s.data.toList.length = s.size := by simp
      exact ⟨he, by omega⟩
  · have := psR_bads h he
    omega
theorem muL_step {s : ByteArray} {p e p2 e2 : Nat} (he : e = 0) (h : e2 = 0 → p < p2) (hp : p < s.size) : muL s p2 e2 + 1 ≤ muL s p e := by
  unfold muL
  rw [if_pos he]
  split
  · rename_i h2; have := h h2; omega
  · omega
theorem ListInv.step {s : ByteArray} {f p e p2 e2 : Nat} {total : PR} {L o o2 : List Int} {i2 : Int} (h : ListInv s f total L p e o) (he : e = 0) (hn : endsL (s.data.toList.drop p) = false) (hps : p < s.size)
    (hr : PsR s (at0 e (pOne (pValue (f - L.length)) (pList (f - L.length)) (s.data.toList.drop p) o)) p2 e2 o2 i2) (hlt : e2 = 0 → p < p2) : ListInv s f total (L ++ [i2]) p2 e2 o2 := by
  obtain ⟨hfu, hg⟩ := h.good he
  have hr := psR_goods hr he
  have hg1 : f + 1 - L.length = (f - L.length) + 1 := by omega
  have hV := pList_not (f := f - L.length) (o := o) hn
  have key : ∀ X, ((L = [] ∧ total = X) ∨ ∃ (rest : List Int) (a : Nat), L = rest ++ [(a : Int)] ∧ total = foldR rest.reverse (X.andThen fun b l o => mk5 l o 7 0 a b 0)) → total = foldR L.reverse X := by
    rintro X (⟨h1, h2⟩ | ⟨rest, a, h1, h2⟩)
    · rw [h2, h1]; rfl
    · rw [h2, h1, List.reverse_append]; rfl
  have htot : total = foldR L.reverse (pList (f - L.length + 1) (s.data.toList.drop p) o) := by
    apply key
    rcases hg with ⟨h1, h2⟩ | ⟨rest, a, h1, h2⟩
    · subst h1; exact .inl ⟨rfl, h2⟩
    · refine .inr ⟨rest, a, h1, ?_⟩
      rw [h2, if_neg (by rw [hn]; decide), hg1]
  rw [hV] at htot
  cases ho : pOne (pValue (f - L.length)) (pList (f - L.length)) (s.data.toList.drop p) o with
  | bad k =>
    rw [ho] at hr htot
    obtain ⟨rfl, hk⟩ := psR_bad hr
    exact ⟨fun _ => by rw [htot]; exact foldR_bad _ _, fun h => absurd h hk⟩
  | good j l o' =>
    rw [ho] at hr htot
    obtain ⟨h2, rfl, hl, rfl⟩ := psR_good hr
    refine ⟨fun h => absurd h2 h, fun _ => ⟨by have := hlt h2; rw [List.length_append]; simp; omega, .inr ⟨L, j, rfl, ?_⟩⟩⟩
    rw [htot, ← hl, List.length_append, show f + 1 - (L.length + [(j : Int)].length) = f - L.length by simp]
    rfl
/-- How far a list was put together. -/
def FoldInv (s : ByteArray) (total : PR) (L : List Int) (j : Nat) (z : Int) (p e : Nat) (o : List Int) : Prop :=
  (e ≠ 0 → total = .bad e) ∧ (e = 0 → ∃ b : Nat, z = (b : Int) ∧ total = foldR (L.take j).reverse (.good b (s.data.toList.drop p) o))
theorem ListInv.fold {s : ByteArray} {f p e : Nat} {total : PR} {rest o : List Int} {z : Int} (h : ListInv s f total (rest ++ [z]) p e o) (hb : (decide (e ≠ 0) || endsL (s.data.toList.drop p)) = true) : FoldInv s total (rest ++ [z]) rest.length z p e o := by
  refine ⟨h.bad, fun he => ?_⟩
  have hn : endsL (s.data.toList.drop p) = true := by simpa [he] using hb
  rcases (h.good he).2 with ⟨h1, _⟩ | ⟨r, a, h1, h2⟩
  · simp at h1
  · obtain ⟨rfl, hz⟩ := List.append_inj' h1 rfl
    injection hz with hz
    refine ⟨a, hz, ?_⟩
    rw [h2, if_pos hn, List.take_left]
theorem FoldInv.step {s : ByteArray} {total : PR} {L : List Int} {j : Nat} {z x : Int} {p e e' n n' : Nat} {o o' : List Int} (h : FoldInv s total L (j + 1) z p e o) (hx : L[j]? = some x) (hl : o.length = n * 5)
    (hb : e ≠ 0 → e' = e) (hd : e = 0 → (e' = 4 ∧ o.length = 400) ∨ (e' = 0 ∧ o' = o ++ [7, 0, x, z, 0] ∧ n' = n + 1 ∧ o.length ≠ 400)) : FoldInv s total L j ((n' : Int) - 1) p e' o' := by
  have ht : (L.take (j + 1)).reverse = x :: (L.take j).reverse := by
    rw [List.take_add_one, hx]
    simp
  by_cases he : e = 0
  · obtain ⟨b, rfl, htot⟩ := h.2 he
    rw [ht] at htot
    rcases hd he with ⟨h1, h2⟩ | ⟨h1, h2, h3, h4⟩
    · refine ⟨fun _ => ?_, fun h => by omega⟩
      rw [htot]
      show foldR _ (mk5 _ _ _ _ _ _ _) = _
      unfold mk5
      rw [if_pos h2, foldR_bad, h1]
    · refine ⟨fun h => by omega, fun _ => ⟨n, by omega, ?_⟩⟩
      rw [htot, h2]
      show foldR _ (mk5 _ _ _ _ _ _ _) = _
      unfold mk5
      rw [if_neg h4, hl, Nat.mul_div_cancel _ (by decide)]
  · have h1 := hb he
    refine ⟨fun _ => by rw [h1]; exact h.1 he, fun h => by omega⟩
theorem FoldInv.done {s : ByteArray} {total : PR} {L : List Int} {z : Int} {p e : Nat} {o : List Int} (h : FoldInv s total L 0 z p e o) : PsR s total p e o z := by
  by_cases he : e = 0
  · obtain ⟨b, rfl, ht⟩ := h.2 he
    rw [ht]
    exact ⟨he, rfl, rfl, rfl⟩
  · rw [h.1 he]
    exact ⟨rfl, he⟩
theorem ListInv.none {s : ByteArray} {f p e e' n n' : Nat} {total : PR} {o o' : List Int} (h : ListInv s f total [] p e o) (hb : (decide (e ≠ 0) || endsL (s.data.toList.drop p)) = true) (hl : o.length = n * 5)
    (hbd : e ≠ 0 → e' = e) (hd : e = 0 → (e' = 4 ∧ o.length = 400) ∨ (e' = 0 ∧ o' = o ++ [5, 0, 0, 0, 0] ∧ n' = n + 1 ∧ o.length ≠ 400)) : PsR s total p e' o' ((n' : Int) - 1) := by
  by_cases he : e = 0
  · have hn : endsL (s.data.toList.drop p) = true := by simpa [he] using hb
    rcases (h.good he).2 with ⟨_, h2⟩ | ⟨r, a, h1, h2⟩
    · rw [h2, pList_ends hn]
      exact psR_mk5 hl hd he
    · simp at h1
  · rw [h.bad he]
    exact ⟨hbd he, he⟩

theorem st_ne_int : (57 : TypeId) ≠ 3 := by decide
theorem node_ne_int : (39 : TypeId) ≠ 3 := by decide
section
variable {w w' : World} {B b : Nat} {v v' lv : Value} {n : Nat} {o L : List Int} {t : TypeId} {vs : Array Value}
theorem OwnI.not_box (h : OwnI w B lv L) (hb : BoxN w b t vs) (ht : t ≠ 3) : lv.ownBlock ≠ some b := by
  rcases h.2 with ⟨rfl, _⟩ | ⟨g, cap, cur, rfl, hg, hc, _⟩
  · intro e; cases e
  · intro e
    have e : some g = some b := e
    injection e with e
    subst e
    have h2 : w.heap[g]? = _ := hb
    rw [hc] at h2
    injection h2 with h2
    injection h2 with _ h2
    exact ht h2.symm
theorem OwnI.not_node (h : OwnI w B lv L) (ho : OwnN w 0 v n o) {g : Nat} (hg : lv.ownBlock = some g) : v.ownBlock ≠ some g := by
  rcases ho.2.2 with ⟨rfl, _⟩ | ⟨g', cap, cur, rfl, hg', hc, _⟩
  · intro e; cases e
  · intro e
    have e : some g' = some g := e
    injection e with e
    subst e
    have hx : BoxN w g' 39 cur := hc
    exact h.not_box hx node_ne_int hg
theorem OwnI.psF (h : OwnI w B lv L) (ho : OwnN w 0 v n o) (hf : PsF w w' v v') : OwnI w' B lv L := hf.keep.row h fun g hg => h.not_node ho hg
theorem OwnI.below1 (h : OwnI w B lv L) (hb : Below w.heap.size w w') : OwnI w' B lv L := ownsRow_below h hb (Nat.le_refl _)
theorem OwnI.put4 {g : Nat} (h : OwnI w B lv L) (hb : BoxN w g t vs) (ht : t ≠ 3) (x0 x1 x2 x3 : Value) : OwnI ((((w.setCell ⟨g, 0, none⟩ x0).setCell ⟨g, 1, none⟩ x1).setCell ⟨g, 2, none⟩ x2).setCell ⟨g, 3, none⟩ x3) B lv L :=
  own_off (own_off (own_off (own_off h hb (Ne.symm ht) x0) (hb.set 0 x0) (Ne.symm ht) x1) ((hb.set 0 x0).set 1 x1) (Ne.symm ht) x2) (((hb.set 0 x0).set 1 x1).set 2 x2) (Ne.symm ht) x3
theorem OwnN.grownI (ho : OwnN w 0 v n o) (h : OwnI w B lv L) (hg : w.grownBy w' lv.ownBlock) : OwnN w' 0 v n o := by
  refine ⟨ho.1, ho.2.1, ?_⟩
  rcases ho.2.2 with h0 | ⟨g, cap, cur, hv, hb, hc, r⟩
  · exact .inl h0
  · refine .inr ⟨g, cap, cur, hv, hb, (hg.block g (Array.getElem?_eq_some_iff.1 hc).1 (fun e => ?_)).trans hc, r⟩
    have hx : BoxN w g 39 cur := hc
    exact h.not_box hx node_ne_int e.symm
theorem PsF.grownI {w0 : World} (hF : PsF w0 w v' v) (h : OwnI w w0.heap.size lv L) (hg : w.grownBy w' lv.ownBlock) : PsF w0 w' v' v := ⟨hF.keep.grown hg fun g e => .inr (own_lt h e).1, hF.blk⟩
theorem OwnI.addr {X : Option Addr} {m k : Nat} (h : OwnI w B (.slice X m k) L) (hL : L ≠ []) : ∃ g, X = some ⟨g, 0, none⟩ := by
  rcases h.2 with ⟨_, h0⟩ | ⟨g, cap, cur, hv, _⟩
  · exact absurd (List.length_eq_zero_iff.1 h0) hL
  · injection hv with hv
    exact ⟨g, hv⟩
theorem OwnI.at_ {g m k : Nat} (h : OwnI w B (.slice (some ⟨g, 0, none⟩) m k) L) {j : Nat} {x : Int} (hx : L[j]? = some x) : w.cell? ⟨g, j, none⟩ = some (.int .i64 x) := by
  rcases h.2 with ⟨h0, _⟩ | ⟨g', cap, cur, hv, hb, hc, hnc, _, hs, ht⟩
  · cases h0
  · injection hv with hv _ _
    injection hv with hv
    injection hv with hv _ _
    subst hv
    rw [cell_of_row w g j cur 3 (0, 0) hc]
    have h2 : (L.map (Value.int .i64))[j]? = some (.int .i64 x) := by rw [List.getElem?_map, hx]; rfl
    rw [← ht, List.getElem?_take] at h2
    split at h2
    · simpa using h2
    · cases h2
end

end Go.Proofs.YtfpghfmdkbdojaaGreatDoor
