/-
  The document's reader of programs: what its functions tell; readBlock.
-/
import Derived.Test.YtfpghfmdkbdojaaGreatDoorPsC
namespace Go.Proofs.YtfpghfmdkbdojaaGreatDoor
open Go.RowKit
set_option maxRecDepth 100000
set_option linter.unusedVariables false

/-- What a reading function tells: a state and a node's number, as the plain reader has them. -/
def PsOut (s : ByteArray) (R : PR) (A : Option Addr) (n c : Nat) (w : World) (r : Ending) (w' : World) : Prop :=
  ∃ p' A' n' c' e' i o', r = .returned (.tuple #[.agg (svA s p' A' n' c' e'), .int .i64 i]) ∧ p' ≤ s.size ∧ OwnN w' 0 (.slice A' n' c') n' o' ∧ n' ≤ 80 ∧ PsF w w' (.slice A n c) (.slice A' n' c') ∧ PsR s R p' e' o' i
/-- The contract of a reading function, with a plain reader and how much fuel it has. -/
def PsC (s : ByteArray) (fn : FuncId) (V : List UInt8 → List Int → PR) (f : Nat) : Prop := ∀ (w : World) (p e n c : Nat) (A : Option Addr) (o : List Int), p ≤ s.size → OwnN w 0 (.slice A n c) n o → n ≤ 80 → (e = 0 → s.size - p < f) →
  Calls Tryz.prog fn #[.agg (svA s p A n c e)] w (PsOut s (at0 e (V (s.data.toList.drop p) o)) A n c w)
theorem psR_bad {s : ByteArray} {k p e : Nat} {o : List Int} {i : Int} (h : PsR s (.bad k) p e o i) : e = k ∧ k ≠ 0 := h
theorem psR_good {s : ByteArray} {j p e : Nat} {l : List UInt8} {o o' : List Int} {i : Int} (h : PsR s (.good j l o') p e o i) : e = 0 ∧ i = (j : Int) ∧ s.data.toList.drop p = l ∧ o = o' := h
/-- What goes on from what was read. -/
theorem psR_then {s : ByteArray} {R : PR} {p1 e1 p2 e2 : Nat} {o1 o2 : List Int} {i1 i2 : Int} {F : Nat → List UInt8 → List Int → PR} (h : PsR s R p1 e1 o1 i1)
    (hb : e1 ≠ 0 → PsR s (.bad e1) p2 e2 o2 i2) (hg : ∀ j : Nat, e1 = 0 → i1 = (j : Int) → PsR s (F j (s.data.toList.drop p1) o1) p2 e2 o2 i2) : PsR s (R.andThen F) p2 e2 o2 i2 := by
  cases R with
  | bad k =>
    obtain ⟨rfl, hk⟩ := psR_bad h
    exact hb hk
  | good j l o' =>
    obtain ⟨he, hi, hl, ho⟩ := psR_good h
    have := hg j he hi
    rw [hl, ho] at this
    exact this
theorem psR_at0 {s : ByteArray} {R : PR} {e p1 e1 : Nat} {o1 : List Int} {i1 : Int} (hb : e ≠ 0 → e1 = e) (hg : e = 0 → PsR s R p1 e1 o1 i1) : PsR s (at0 e R) p1 e1 o1 i1 := by
  by_cases h : e = 0
  · rw [h, at0_zero]; exact hg h
  · rw [at0_bad h]; exact ⟨hb h, h⟩
theorem psR_want {s : ByteArray} {c : UInt8} {p e p1 e1 p2 e2 : Nat} {o o2 : List Int} {i2 : Int} {F : List UInt8 → List Int → PR} (h : MustTo s c p e p1 e1) (he : e = 0)
    (hb : e1 ≠ 0 → e2 = e1) (hg : e1 = 0 → PsR s (F (s.data.toList.drop p1) o) p2 e2 o2 i2) : PsR s (pWant c (s.data.toList.drop p) o F) p2 e2 o2 i2 := by
  rcases h.2.2 he with ⟨h1, h2, h3, h4⟩ | ⟨h1, h2⟩
  · rw [h4]
    have h5 : pWant c (c :: s.data.toList.drop p1) o F = F (s.data.toList.drop p1) o := by unfold pWant; simp
    rw [h5]
    exact hg h1
  · have h3 : pWant c (s.data.toList.drop p) o F = .bad 2 := by
      cases hd : s.data.toList.drop p with
      | nil => rfl
      | cons x l =>
        unfold pWant
        dsimp only
        rw [if_neg]
        rintro rfl
        exact h2 l hd
    rw [h3]
    exact ⟨by rw [hb (by omega), h1], by decide⟩
theorem MustTo.left {s : ByteArray} {c : UInt8} {p e p1 e1 : Nat} (h : MustTo s c p e p1 e1) (h1 : e1 = 0) : e = 0 ∧ p1 = p + 1 ∧ p < s.size := by
  by_cases he : e = 0
  · rcases h.2.2 he with ⟨_, h2, h3, _⟩ | ⟨h2, _⟩
    · exact ⟨he, h2, h3⟩
    · omega
  · have := h.2.1 he
    omega
theorem psR_bads {s : ByteArray} {R : PR} {e p1 e1 : Nat} {o1 : List Int} {i1 : Int} (h : PsR s (at0 e R) p1 e1 o1 i1) (he : e ≠ 0) : e1 = e := by
  rw [at0_bad he] at h
  exact h.1
theorem psR_goods {s : ByteArray} {R : PR} {e p1 e1 : Nat} {o1 : List Int} {i1 : Int} (h : PsR s (at0 e R) p1 e1 o1 i1) (he : e = 0) : PsR s R p1 e1 o1 i1 := by rw [he, at0_zero] at h; exact h
/- printed by tools/psgen.py -/
set_option maxHeartbeats 8000000 in
theorem RBlock_any {s : ByteArray} {f : Nat} (hs : s.size ≤ 300) (HL : PsC s 24 (pList f) f) : PsC s 48 (pBlock (pList f)) (f + 1) := by
  intro w p e n c A o hp ho hn hfu
  obtain ⟨bt, br, hb0⟩ := two_boxes w (svA s p A n c e) svZ 57
  replace ho := ho.below0 hb0
  have hF := PsF.of_below hb0 (.slice A n c)
  have lt_ : w.heap.size ≤ w.heap.size := Nat.le_refl _
  have lr_ : w.heap.size ≤ w.heap.size + 1 := Nat.le_succ _
  have hs0 := hb0.size
  clear hb0
  go_enter Tryz.func48, Tryz.ntmps48
  go_wp2_with fail
  generalize ((w.alloc (.cells #[.string s, .int .i64 (p : Nat), .slice A n c, .int .i64 (e : Nat)] 57)).alloc (.cells #[.string ⟨#[]⟩, .int .i64 0, .slice none 0 0, .int .i64 0] 57)) = w0 at *
  have CM := Lib.hid (RMust_any (s := s) (p := p) (e := e) (A := A) (n := n) (cc := c) (w := w0) (c := 123) (x := 123) rfl hs hp)
  with_reducible refine CM.out.mono ?_
  rintro r w1 ⟨⟨p1, e1, rfl, hm1⟩, hb1⟩
  clear CM
  replace bt := bt.all hb1
  replace br := br.all hb1
  replace ho := ho.below0 hb1
  replace hF := hF.trans (PsF.of_below hb1 _)
  have hq1 := hp
  replace hp := hm1.1
  clear hb1
  obtain ⟨⟨x0t, x1t, x2t, x3t⟩, f0t, f1t, f2t, f3t⟩ := BoxN.st4 bt
  go_wp2_with fail
  clear x0t x1t x2t x3t f0t f1t f2t f3t
  replace ho := ho.put4 bt st_ne_node (.string s) (.int .i64 (p1 : Nat)) (.slice A n c) (.int .i64 (e1 : Nat))
  replace br := br.far4 (g := w.heap.size) (by omega) (.string s) (.int .i64 (p1 : Nat)) (.slice A n c) (.int .i64 (e1 : Nat))
  replace bt := bt.put4 rfl s p1 A n c e1
  replace hF := hF.put4 (g := w.heap.size) lt_ (.string s) (.int .i64 (p1 : Nat)) (.slice A n c) (.int .i64 (e1 : Nat))
  generalize (((((w1).setCell ⟨w.heap.size, 0, none⟩ (.string s)).setCell ⟨w.heap.size, 1, none⟩ (.int .i64 (p1 : Nat))).setCell ⟨w.heap.size, 2, none⟩ (.slice A n c)).setCell ⟨w.heap.size, 3, none⟩ (.int .i64 (e1 : Nat))) = w1s at *
  have hfu1 : e1 = 0 → s.size - p1 < f := fun h => by have := hm1.left h; have := hfu this.1; omega
  have CR := Lib.hid (HL w1s p1 e1 n c A _ hp ho hn hfu1)
  with_reducible refine CR.out.mono ?_
  rintro r w2 ⟨p2, A2, n2, c2, e2, i2, o2, rfl, hp2, ho2, hn2, hf2, hr2⟩
  clear CR
  replace bt := hf2.st ho bt
  replace br := hf2.st ho br
  replace hF := hF.trans hf2
  clear ho hn hp hf2
  have hp := hp2
  have ho := ho2
  have hn := hn2
  clear hp2 ho2 hn2
  obtain ⟨⟨x0t, x1t, x2t, x3t⟩, f0t, f1t, f2t, f3t⟩ := BoxN.st4 bt
  go_wp2_with fail
  clear x0t x1t x2t x3t f0t f1t f2t f3t
  replace ho := ho.put4 bt st_ne_node (.string s) (.int .i64 (p2 : Nat)) (.slice A2 n2 c2) (.int .i64 (e2 : Nat))
  replace br := br.far4 (g := w.heap.size) (by omega) (.string s) (.int .i64 (p2 : Nat)) (.slice A2 n2 c2) (.int .i64 (e2 : Nat))
  replace bt := bt.put4 rfl s p2 A2 n2 c2 e2
  replace hF := hF.put4 (g := w.heap.size) lt_ (.string s) (.int .i64 (p2 : Nat)) (.slice A2 n2 c2) (.int .i64 (e2 : Nat))
  generalize (((((w2).setCell ⟨w.heap.size, 0, none⟩ (.string s)).setCell ⟨w.heap.size, 1, none⟩ (.int .i64 (p2 : Nat))).setCell ⟨w.heap.size, 2, none⟩ (.slice A2 n2 c2)).setCell ⟨w.heap.size, 3, none⟩ (.int .i64 (e2 : Nat))) = w2s at *
  have CM := Lib.hid (RMust_any (s := s) (p := p2) (e := e2) (A := A2) (n := n2) (cc := c2) (w := w2s) (c := 125) (x := 125) rfl hs hp)
  with_reducible refine CM.out.mono ?_
  rintro r w3 ⟨⟨p3, e3, rfl, hm3⟩, hb3⟩
  clear CM
  replace bt := bt.all hb3
  replace br := br.all hb3
  replace ho := ho.below0 hb3
  replace hF := hF.trans (PsF.of_below hb3 _)
  have hq3 := hp
  replace hp := hm3.1
  clear hb3
  obtain ⟨⟨x0r, x1r, x2r, x3r⟩, f0r, f1r, f2r, f3r⟩ := BoxN.stZ br
  go_wp2_with fail
  clear x0r x1r x2r x3r f0r f1r f2r f3r
  replace ho := ho.put4 br st_ne_node (.string s) (.int .i64 (p3 : Nat)) (.slice A2 n2 c2) (.int .i64 (e3 : Nat))
  replace bt := bt.far4 (g := w.heap.size + 1) (by omega) (.string s) (.int .i64 (p3 : Nat)) (.slice A2 n2 c2) (.int .i64 (e3 : Nat))
  replace br := br.put4 rfl s p3 A2 n2 c2 e3
  replace hF := hF.put4 (g := w.heap.size + 1) lr_ (.string s) (.int .i64 (p3 : Nat)) (.slice A2 n2 c2) (.int .i64 (e3 : Nat))
  generalize (((((w3).setCell ⟨w.heap.size + 1, 0, none⟩ (.string s)).setCell ⟨w.heap.size + 1, 1, none⟩ (.int .i64 (p3 : Nat))).setCell ⟨w.heap.size + 1, 2, none⟩ (.slice A2 n2 c2)).setCell ⟨w.heap.size + 1, 3, none⟩ (.int .i64 (e3 : Nat))) = w3s at *
  refine bodyPost_ret (resRowTmp rfl _ _ (w.heap.size + 1) 57 (svA s p3 A2 n2 c2 e3) (0, 0) _ rfl br Tryz.underlying57 rfl (by kernel_rfl)) rfl ?_
  exact ⟨p3, A2, n2, c2, e3, i2, o2, rfl, hp, ho, hn, hF, psR_at0 (fun h => by have h1 := hm1.2.1 h; have h2 := psR_bads hr2 (by omega); have h3 := hm3.2.1 (by omega); omega) (fun h => psR_want hm1 h (fun h1 => by have h2 := psR_bads hr2 h1; have h3 := hm3.2.1 (by omega); omega) (fun h1 => psR_then (psR_goods hr2 h1) (fun h2 => ⟨hm3.2.1 h2, h2⟩) (fun j h2 hj => psR_want hm3 h2 (fun _ => rfl) (fun h3 => ⟨h3, hj, rfl, rfl⟩))))⟩
end Go.Proofs.YtfpghfmdkbdojaaGreatDoor
