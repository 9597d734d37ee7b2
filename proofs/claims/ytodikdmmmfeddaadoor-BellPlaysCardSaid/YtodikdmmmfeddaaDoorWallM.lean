/-
  Words: the wall, in memory; contracts of Saw and Holds, and of what may asks of a firm.
-/
import Derived.Test.YtodikdmmmfeddaaDoorWallLaw
import Derived.Test.YtodikdmmmfeddaaDoorBibaM
import Derived.Test.YtodikdmmmfeddaaDoorSets
namespace Go.Proofs.YtodikdmmmfeddaaDoor
open Go.RowKit
set_option maxRecDepth 100000
set_option linter.unusedVariables false

theorem vN_set (l : List Nat) (i x : Nat) : vI (castL (l.set i x)) = (vI (castL l)).set i (.int .i64 (x : Int)) := map_set_cast l i x
theorem OwnAt.row_ {w : World} {g : Nat} {l : List Nat} (h : OwnAt w g 3 (vI (castL l))) {i : Nat} (hi : i < l.length) : w.cell? ⟨g, i, none⟩ = some (.int .i64 (row l i : Nat)) := h.cell (get_cast_val l i hi)

/-- The three rows, where there are users and firms. -/
structure WOwn (w : World) (base : Nat) (T : List Int) (S : WS) (gt gs gh : Nat) : Prop where
  bt : base ≤ gt
  bs : base ≤ gs
  bh : base ≤ gh
  ot : OwnAt w gt 3 (vI T)
  os : OwnAt w gs 3 (vI (castL S.Saw))
  oh : OwnAt w gh 3 (vI (castL S.Ho))
  ts : gt ≠ gs
  th : gt ≠ gh
  sh : gs ≠ gh
section
variable {w w' : World} {base : Nat} {T : List Int} {S : WS} {gt gs gh : Nat}
theorem WOwn.all (h : WOwn w base T S gt gs gh) (hb : Below w.heap.size w w') : WOwn w' base T S gt gs gh :=
  ⟨h.bt, h.bs, h.bh, h.ot.all hb, h.os.all hb, h.oh.all hb, h.ts, h.th, h.sh⟩
theorem WOwn.setS (h : WOwn w base T S gt gs gh) {i : Nat} (hi : i < S.Saw.length) (x : Nat) : WOwn (w.setCell ⟨gs, i, none⟩ (.int .i64 (x : Int))) base T { S with Saw := S.Saw.set i x } gt gs gh :=
  ⟨h.bt, h.bs, h.bh, h.ot.far (a := ⟨gs, i, none⟩) h.ts _, by show OwnAt _ _ _ (vI (castL (S.Saw.set i x))); rw [vN_set]; exact h.os.set (by simpa [castL] using hi) _, h.oh.far (a := ⟨gs, i, none⟩) h.sh.symm _, h.ts, h.th, h.sh⟩
theorem WOwn.setH (h : WOwn w base T S gt gs gh) {i : Nat} (hi : i < S.Ho.length) (x : Nat) : WOwn (w.setCell ⟨gh, i, none⟩ (.int .i64 (x : Int))) base T { S with Ho := S.Ho.set i x } gt gs gh :=
  ⟨h.bt, h.bs, h.bh, h.ot.far (a := ⟨gh, i, none⟩) h.th _, h.os.far (a := ⟨gh, i, none⟩) h.sh _, by show OwnAt _ _ _ (vI (castL (S.Ho.set i x))); rw [vN_set]; exact h.oh.set (by simpa [castL] using hi) _, h.ts, h.th, h.sh⟩
end

/-- The wall at p. -/
structure WallAt (w : World) (base p : Nat) (T : List Int) (S : WS) (At As Ah : Option Addr) (ct cs ch : Nat) : Prop where
  bp : base ≤ p
  box : BoxN w p 75 #[.slice At T.length ct, .slice As S.Saw.length cs, .slice Ah S.Ho.length ch]
  it : IntsAt w At T
  is : IntsAt w As (castL S.Saw)
  ih : IntsAt w Ah (castL S.Ho)
  own : S.Saw ≠ [] → T ≠ [] → ∃ gt gs gh, At = some ⟨gt, 0, none⟩ ∧ As = some ⟨gs, 0, none⟩ ∧ Ah = some ⟨gh, 0, none⟩ ∧ WOwn w base T S gt gs gh
theorem int_ne_wall : (3 : TypeId) ≠ 75 := by decide
section
variable {w w' : World} {base p : Nat} {T : List Int} {S : WS} {At As Ah : Option Addr} {ct cs ch : Nat}
theorem WallAt.all (h : WallAt w base p T S At As Ah ct cs ch) (hb : Below w.heap.size w w') : WallAt w' base p T S At As Ah ct cs ch :=
  ⟨h.bp, h.box.all hb, h.it.below hb, h.is.below hb, h.ih.below hb, fun h1 h2 => by
    obtain ⟨gt, gs, gh, e1, e2, e3, ho⟩ := h.own h1 h2
    exact ⟨gt, gs, gh, e1, e2, e3, ho.all hb⟩⟩
/-- What is told of a user, or a firm. -/
def told (l : List Nat) (u : Int) : Nat := if 0 ≤ u ∧ u < l.length then row l u.toNat else 0

theorem Saw_any (h : WallAt w base p T S At As Ah ct cs ch) (hl : S.Saw.length < 2 ^ 60) (u : Int) :
    Calls Tryd.prog 25 #[.pointer (some ⟨p, 0, none⟩), .int .i64 u] w fun e w' => e = .returned (.int .i64 (told S.Saw u : Nat)) ∧ w = w' := by
  have c0 : w.cell? ⟨p, 1, none⟩ = some (.slice As S.Saw.length cs) := h.box.cell rfl
  by_cases hu : 0 ≤ u ∧ u < S.Saw.length
  · obtain ⟨un, rfl⟩ := Int.eq_ofNat_of_zero_le hu.1
    have hun : un < S.Saw.length := by omega
    obtain ⟨b, off, rfl, hc⟩ := h.is.row hun
    have C1 := Lib.hid (fun V => Within3_is (un : Int) 0 ((S.Saw.length : Int) - 1) true V (by simp; omega))
    have Hv := Lib.hid (show told S.Saw un = row S.Saw un by unfold told; rw [if_pos hu]; rfl)
    clear h hu
    generalize row S.Saw un = x at *
    generalize S.Saw.length = n at *
    go_enter Tryd.func25, Tryd.ntmps25
    go_wp2_with (go_at_call 41; with_reducible refine (C1.out _).mono ?_; rintro e w' ⟨rfl, rfl⟩)
    go_ret
    exact ⟨ret_int (by rw [Hv.out]), rfl⟩
  · have C1 := Lib.hid (fun V => Within3_is u 0 ((S.Saw.length : Int) - 1) false V (by simp; omega))
    have Hv := Lib.hid (show told S.Saw u = 0 by unfold told; rw [if_neg hu])
    clear h hu
    generalize S.Saw.length = n at *
    go_enter Tryd.func25, Tryd.ntmps25
    go_wp2_with (go_at_call 41; with_reducible refine (C1.out _).mono ?_; rintro e w' ⟨rfl, rfl⟩)
    go_ret
    exact ⟨ret_int (by rw [Hv.out]; rfl), rfl⟩
theorem Holds_any (h : WallAt w base p T S At As Ah ct cs ch) (hl : T.length < 2 ^ 60) (hT : S.Ho.length = T.length) (u : Int) :
    Calls Tryd.prog 27 #[.pointer (some ⟨p, 0, none⟩), .int .i64 u] w fun e w' => e = .returned (.int .i64 (told S.Ho u : Nat)) ∧ w = w' := by
  have c0 : w.cell? ⟨p, 0, none⟩ = some (.slice At T.length ct) := h.box.cell rfl
  have c1 : w.cell? ⟨p, 2, none⟩ = some (.slice Ah S.Ho.length ch) := h.box.cell rfl
  rw [hT] at c1
  by_cases hu : 0 ≤ u ∧ u < T.length
  · obtain ⟨un, rfl⟩ := Int.eq_ofNat_of_zero_le hu.1
    obtain ⟨b, off, rfl, hc⟩ := h.ih.row (k := un) (by omega)
    have C1 := Lib.hid (fun V => Within3_is (un : Int) 0 ((T.length : Int) - 1) true V (by simp; omega))
    have Hv := Lib.hid (show told S.Ho un = row S.Ho un by unfold told; rw [if_pos (by omega)]; rfl)
    have hun : un < T.length := by omega
    clear h hu hT
    generalize row S.Ho un = x at *
    generalize T.length = n at *
    go_enter Tryd.func27, Tryd.ntmps27
    go_wp2_with (go_at_call 41; with_reducible refine (C1.out _).mono ?_; rintro e w' ⟨rfl, rfl⟩)
    go_ret
    exact ⟨ret_int (by rw [Hv.out]), rfl⟩
  · have C1 := Lib.hid (fun V => Within3_is u 0 ((T.length : Int) - 1) false V (by simp; omega))
    have Hv := Lib.hid (show told S.Ho u = 0 by unfold told; rw [if_neg (by omega)])
    clear h hu hT
    generalize T.length = n at *
    go_enter Tryd.func27, Tryd.ntmps27
    go_wp2_with (go_at_call 41; with_reducible refine (C1.out _).mono ?_; rintro e w' ⟨rfl, rfl⟩)
    go_ret
    exact ⟨ret_int (by rw [Hv.out]; rfl), rfl⟩

/-- Is a firm of the trade of another one? -/
theorem may1_any (h : WallAt w base p T S At As Ah ct cs ch) {a b i f : Nat} (hi : i < T.length) (hf : f < T.length) (hn : T.length ≤ 100) (ca : w.cell? ⟨a, 0, none⟩ = some (.pointer (some ⟨p, 0, none⟩))) (cb : w.cell? ⟨b, 0, none⟩ = some (.int .i64 f)) :
    Calls Tryd.prog 63 #[.int .i64 i, .pointer (some ⟨a, 0, none⟩), .pointer (some ⟨b, 0, none⟩)] w fun e w' => e = .returned (.bool (sameT T f i)) ∧ ∃ q, w.drewN q = w' := by
  have c0 : w.cell? ⟨p, 0, none⟩ = some (.slice At T.length ct) := h.box.cell rfl
  obtain ⟨bb, off, rfl, hc⟩ := h.it (by intro e; simp [e] at hi)
  have c1 := hc i _ (get_gI hi)
  have c2 := hc f _ (get_gI hf)
  have Hv := Lib.hid (show sameT T f i = (gI T i == gI T f) by unfold sameT; rw [Bool.eq_iff_iff]; simp)
  clear h hc
  generalize gI T i = x at *
  generalize gI T f = y at *
  generalize T.length = n at *
  go_enter Tryd.func63, Tryd.ntmps63
  go_wp2_with fail
  go_quiet (fail)
  go_wp2_with fail
  go_ret
  exact ⟨ret_bool Hv.out.symm, nq, rfl⟩
theorem always_any (i : Int) : Calls Tryd.prog 48 #[.int .i64 i] w fun e w' => e = .returned (.bool true) ∧ ∃ q, w.drewN q = w' := by
  go_enter Tryd.func48, Tryd.ntmps48
  go_wp2_with fail
  go_ret
  exact ⟨rfl, 0, rfl⟩
end
end Go.Proofs.YtodikdmmmfeddaaDoor
