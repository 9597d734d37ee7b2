/-
  The document's reader of programs: must, made, ends, name.
-/
import Derived.Test.YtfpghfmdkbdojaaGreatDoorPsA
import Derived.Deep.CutRange
import Derived.Deep.RegionHeld3
import Derived.Lib.QuietBelow
namespace Go.Proofs.YtfpghfmdkbdojaaGreatDoor
open Go.RowKit
set_option maxRecDepth 100000
set_option linter.unusedVariables false

section
variable {w w' : World} {b : Nat} {t : TypeId} {vs : Array Value}
/-- What a walk wants of a box that it reads and writes. -/
theorem BoxN.st4 {s : ByteArray} {p e : Nat} {A : Option Addr} {n c : Nat} (h : BoxN w b t (svA s p A n c e)) : (w.cell? ⟨b, 0, none⟩ = some (.string s) ∧ w.cell? ⟨b, 1, none⟩ = some (.int .i64 p) ∧ w.cell? ⟨b, 2, none⟩ = some (.slice A n c) ∧ w.cell? ⟨b, 3, none⟩ = some (.int .i64 e)) ∧ w.frozen? ⟨b, 0, none⟩ = false ∧ w.frozen? ⟨b, 1, none⟩ = false ∧ w.frozen? ⟨b, 2, none⟩ = false ∧ w.frozen? ⟨b, 3, none⟩ = false :=
  ⟨⟨h.cell rfl, h.cell rfl, h.cell rfl, h.cell rfl⟩, h.free 0, h.free 1, h.free 2, h.free 3⟩
theorem BoxN.stZ (h : BoxN w b t svZ) : (w.cell? ⟨b, 0, none⟩ = some (.string ⟨#[]⟩) ∧ w.cell? ⟨b, 1, none⟩ = some (.int .i64 0) ∧ w.cell? ⟨b, 2, none⟩ = some (.slice none 0 0) ∧ w.cell? ⟨b, 3, none⟩ = some (.int .i64 0)) ∧ w.frozen? ⟨b, 0, none⟩ = false ∧ w.frozen? ⟨b, 1, none⟩ = false ∧ w.frozen? ⟨b, 2, none⟩ = false ∧ w.frozen? ⟨b, 3, none⟩ = false :=
  ⟨⟨h.cell rfl, h.cell rfl, h.cell rfl, h.cell rfl⟩, h.free 0, h.free 1, h.free 2, h.free 3⟩
theorem BoxN.put4 (h : BoxN w b t vs) (hv : vs.size = 4) (s : ByteArray) (p : Nat) (A : Option Addr) (n c e : Nat) : BoxN ((((w.setCell ⟨b, 0, none⟩ (.string s)).setCell ⟨b, 1, none⟩ (.int .i64 p)).setCell ⟨b, 2, none⟩ (.slice A n c)).setCell ⟨b, 3, none⟩ (.int .i64 e)) b t (svA s p A n c e) := by
  have := (((h.set 0 (.string s)).set 1 (.int .i64 p)).set 2 (.slice A n c)).set 3 (.int .i64 e)
  obtain ⟨l⟩ := vs
  match l, hv with
  | [a0, a1, a2, a3], _ => exact this
theorem BoxN.far4 (h : BoxN w b t vs) {g : Nat} (hne : b ≠ g) (x0 x1 x2 x3 : Value) : BoxN ((((w.setCell ⟨g, 0, none⟩ x0).setCell ⟨g, 1, none⟩ x1).setCell ⟨g, 2, none⟩ x2).setCell ⟨g, 3, none⟩ x3) b t vs := (((h.other (a := ⟨g, 0, none⟩) hne _).other (a := ⟨g, 1, none⟩) hne _).other (a := ⟨g, 2, none⟩) hne _).other (a := ⟨g, 3, none⟩) hne _
theorem below_put4 {B g : Nat} (h : Below B w w') (hg : B ≤ g) (x0 x1 x2 x3 : Value) : Below B w ((((w'.setCell ⟨g, 0, none⟩ x0).setCell ⟨g, 1, none⟩ x1).setCell ⟨g, 2, none⟩ x2).setCell ⟨g, 3, none⟩ x3) := (((h.setCell (p := ⟨g, 0, none⟩) hg _).setCell (p := ⟨g, 1, none⟩) hg _).setCell (p := ⟨g, 2, none⟩) hg _).setCell (p := ⟨g, 3, none⟩) hg _
theorem OwnN.put4 {v : Value} {n g : Nat} {o : List Int} (h : OwnN w 0 v n o) (hb : BoxN w g t vs) (ht : t ≠ 39) (x0 x1 x2 x3 : Value) : OwnN ((((w.setCell ⟨g, 0, none⟩ x0).setCell ⟨g, 1, none⟩ x1).setCell ⟨g, 2, none⟩ x2).setCell ⟨g, 3, none⟩ x3) 0 v n o :=
  (((h.setBox hb ht 0 x0).setBox (hb.set 0 x0) ht 1 x1).setBox ((hb.set 0 x0).set 1 x1) ht 2 x2).setBox (((hb.set 0 x0).set 1 x1).set 2 x2) ht 3 x3
theorem PsF.put4 {v v' : Value} {g : Nat} (h : PsF w w' v v') (hg : w.heap.size ≤ g) (x0 x1 x2 x3 : Value) : PsF w ((((w'.setCell ⟨g, 0, none⟩ x0).setCell ⟨g, 1, none⟩ x1).setCell ⟨g, 2, none⟩ x2).setCell ⟨g, 3, none⟩ x3) v v' := (((h.setNew (p := ⟨g, 0, none⟩) hg _).setNew (p := ⟨g, 1, none⟩) hg _).setNew (p := ⟨g, 2, none⟩) hg _).setNew (p := ⟨g, 3, none⟩) hg _
end

theorem RBad_is {k : Nat} {x : Int} (hk : (k : Int) = x) (s : ByteArray) (p e : Nat) (A : Option Addr) (n c : Nat) (w : World) :
    Calls Tryz.prog 25 #[.agg (svA s p A n c e), .int .i64 x] w fun r w' => r = .returned (.agg (svA s p A n c (if e = 0 then k else e))) ∧ Below w.heap.size w w' := by
  subst hk
  exact RBad_any s p e k A n c w
/-- What must tells. -/
def MustTo (s : ByteArray) (c : UInt8) (p e p' e' : Nat) : Prop := p' ≤ s.size ∧ (e ≠ 0 → e' = e) ∧ (e = 0 → (e' = 0 ∧ p' = p + 1 ∧ p < s.size ∧ s.data.toList.drop p = c :: s.data.toList.drop p') ∨ (e' = 2 ∧ ∀ l, s.data.toList.drop p ≠ c :: l))
theorem drop_next {s : ByteArray} {p : Nat} {c : UInt8} {l : List UInt8} (h : s.data.toList.drop p = c :: l) : s.data.toList.drop p = c :: s.data.toList.drop (p + 1) := by
  have h2 : s.data.toList.drop (p + 1) = l := by rw [← List.drop_drop, h]; rfl
  rw [h2, h]
theorem isNext_no {s : ByteArray} {p : Nat} {c : UInt8} (h : isNext s p 0 c = false) (l : List UInt8) : s.data.toList.drop p ≠ c :: l := fun hd => of_decide_eq_false h ⟨rfl, by rw [hd]; rfl⟩

set_option maxHeartbeats 8000000 in
theorem RMust_any {s : ByteArray} {p e : Nat} {A : Option Addr} {n cc : Nat} {w : World} {c : UInt8} {x : Int} (hx : (c.toNat : Int) = x) (hs : s.size ≤ 300) (hp : p ≤ s.size) :
    Calls Tryz.prog 50 #[.agg (svA s p A n cc e), .int .u8 x] w fun r w' => (∃ p' e', r = .returned (.agg (svA s p' A n cc e')) ∧ MustTo s c p e p' e') ∧ Below w.heap.size w w' := by
  obtain ⟨hb0, hb1, hb2⟩ := two_boxes w (svA s p A n cc e) svZ 57
  have CS := Lib.hid (fun V => RSign_any (A := A) (n := n) (cc := cc) (e := e) (w := V) hx hs hp)
  cases hn : isNext s p e c with
  | true =>
    obtain ⟨he, hlt, l, hd⟩ := isNext_yes hn
    rw [hn, if_pos rfl] at CS
    have Hp := Lib.hid (drop_next hd)
    have He := Lib.hid he
    clear hn hd hx he
    unfold svA svZ at *
    go_enter Tryz.func50, Tryz.ntmps50
    go_wp2_with ((with_reducible refine (CS.out _).mono ?_); rintro r w1 ⟨rfl, hbw⟩; have h0 := hb0.all hbw; have h1 := hb1.all hbw; have hb := hb2.trans (hbw.mono hb2.size); obtain ⟨⟨x0, x1, x2, x3⟩, f0, f1, f2, f3⟩ := BoxN.st4 h0; obtain ⟨⟨z0, z1, z2, z3⟩, g0, g1, g2, g3⟩ := BoxN.stZ h1)
    have hA := h0.put4 rfl s (p + 1) A n cc e
    have hZ := (h1.far4 (g := w.heap.size) (by omega) (.string s) (.int .i64 ((p + 1 : Nat) : Int)) (.slice A n cc) (.int .i64 e)).put4 rfl s (p + 1) A n cc e
    refine bodyPost_ret (resRow1 rfl _ _ (w.heap.size + 1) 57 (svA s (p + 1) A n cc e) (0, 0) _ rfl hZ Tryz.underlying57 rfl (by kernel_rfl)) rfl ?_
    exact ⟨⟨p + 1, e, rfl, hlt, fun h => rfl, fun h => .inl ⟨h, rfl, hlt, Hp.out⟩⟩, below_put4 (below_put4 hb (Nat.le_refl _) _ _ _ _) (Nat.le_succ _) _ _ _ _⟩
  | false =>
    rw [hn, if_neg (by decide)] at CS
    have CB := Lib.hid (fun V => RBad_is (k := 2) (x := 2) rfl s p e A n cc V)
    have Hp := Lib.hid (show e = 0 → ∀ l, s.data.toList.drop p ≠ c :: l from fun h l => by subst h; exact isNext_no hn l)
    have He := Lib.hid (show (e ≠ 0 → (if e = 0 then 2 else e) = e) ∧ (e = 0 → (if e = 0 then 2 else e) = 2) from ⟨fun h => if_neg h, fun h => if_pos h⟩)
    generalize (if e = 0 then 2 else e) = e2 at *
    clear hn hx
    unfold svA svZ at *
    go_enter Tryz.func50, Tryz.ntmps50
    go_wp2_with (first | (go_at_call 46; (with_reducible refine (CS.out _).mono ?_); rintro r w1 ⟨rfl, hbw⟩; have h0 := hb0.all hbw; have h1 := hb1.all hbw; have hb := hb2.trans (hbw.mono hb2.size); obtain ⟨⟨x0, x1, x2, x3⟩, f0, f1, f2, f3⟩ := BoxN.st4 h0; obtain ⟨⟨z0, z1, z2, z3⟩, g0, g1, g2, g3⟩ := BoxN.stZ h1) | (go_at_call 25; (with_reducible refine (CB.out _).mono ?_); rintro r w2 ⟨rfl, hbv⟩; have hz1 := (h1.far4 (g := w.heap.size) (by omega) (.string s) (.int .i64 p) (.slice A n cc) (.int .i64 e)).all hbv; obtain ⟨⟨z0, z1, z2, z3⟩, g0, g1, g2, g3⟩ := BoxN.stZ hz1))
    have hbb := (below_put4 hb (Nat.le_refl _) (.string s) (.int .i64 p) (.slice A n cc) (.int .i64 e)).trans (hbv.mono (by have := hb.size; simp; omega))
    have hZ := hz1.put4 rfl s p A n cc e2
    refine bodyPost_ret (resRow1 rfl _ _ (w.heap.size + 1) 57 (svA s p A n cc e2) (0, 0) _ rfl hZ Tryz.underlying57 rfl (by kernel_rfl)) rfl ?_
    exact ⟨⟨p, e2, rfl, hp, He.out.1, fun h => .inr ⟨He.out.2 h, Hp.out h⟩⟩, below_put4 hbb (Nat.le_succ _) _ _ _ _⟩
end Go.Proofs.YtfpghfmdkbdojaaGreatDoor
