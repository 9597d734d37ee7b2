/-
  The document's reader of programs: made, ends, name.
-/
import Derived.Test.YtfpghfmdkbdojaaGreatDoorPsB
namespace Go.Proofs.YtfpghfmdkbdojaaGreatDoor
open Go.RowKit
set_option maxRecDepth 100000
set_option linter.unusedVariables false

theorem three_boxes (w : World) (vs us xs : Array Value) (t t' : TypeId) : BoxN (((w.alloc (.cells vs t)).alloc (.cells us t')).alloc (.cells xs t)) w.heap.size t vs ∧ BoxN (((w.alloc (.cells vs t)).alloc (.cells us t')).alloc (.cells xs t)) (w.heap.size + 1) t' us ∧ BoxN (((w.alloc (.cells vs t)).alloc (.cells us t')).alloc (.cells xs t)) (w.heap.size + 1 + 1) t xs ∧ Below w.heap.size w (((w.alloc (.cells vs t)).alloc (.cells us t')).alloc (.cells xs t)) ∧ (((w.alloc (.cells vs t)).alloc (.cells us t')).alloc (.cells xs t)).heap.size = w.heap.size + 3 :=
  ⟨((BoxN.new w t vs).alloc _).alloc _, (boxAt' (w.alloc (.cells vs t)) t' us _ (by simp)).alloc _, boxAt' _ _ _ _ (by simp), (((Below.refl _ _).alloc (Nat.le_refl _) _).alloc (by simp) _).alloc (by simp; omega) _, by simp⟩
/-- What made tells. -/
def MadeTo (s : ByteArray) (p e n : Nat) (A : Option Addr) (cc : Nat) (o X : List Int) (w : World) (r : Ending) (w' : World) : Prop :=
  ∃ A' n' cc' e' o', r = .returned (.agg (svA s p A' n' cc' e')) ∧ OwnN w' 0 (.slice A' n' cc') n' o' ∧ n' ≤ 80 ∧ PsF w w' (.slice A n cc) (.slice A' n' cc') ∧ (e ≠ 0 → e' = e) ∧ (e = 0 → (e' = 4 ∧ o.length = 400) ∨ (e' = 0 ∧ o' = o ++ X ∧ n' = n + 1 ∧ o.length ≠ 400))

set_option maxHeartbeats 8000000 in
theorem RMade_any {s : ByteArray} {p e : Nat} {A : Option Addr} {n cc : Nat} {o : List Int} {w : World} (hs : s.size ≤ 300) (hp : p ≤ s.size) (ho : OwnN w 0 (.slice A n cc) n o) (hn : n ≤ 80) (k0 k1 k2 k3 k4 : Int) :
    Calls Tryz.prog 36 #[.agg (svA s p A n cc e), .agg #[.int .i64 k0, .int .i64 k1, .int .i64 k2, .int .i64 k3, .int .i64 k4]] w (MadeTo s p e n A cc o [k0, k1, k2, k3, k4] w) := by
  have Ho := Lib.hid ho
  have hlen := ho.1
  clear ho
  by_cases he : e = 0
  · have d0 : ((e : Int) != 0) = false := by simp; omega
    by_cases h80 : n = 80
    · have d80 : ((n : Int) == 80) = true := by simp; omega
      obtain ⟨hx, hk, hz, hb, hsz⟩ := three_boxes w (svA s p A n cc e) #[.int .i64 k0, .int .i64 k1, .int .i64 k2, .int .i64 k3, .int .i64 k4] svZ 57 39
      have CB := Lib.hid (fun V => RBad_is (k := 4) (x := 4) rfl s p e A n cc V)
      rw [if_pos he] at CB
      have He := Lib.hid he
      have H8 := Lib.hid h80
      clear he h80
      unfold svA svZ at *
      go_enter Tryz.func36, Tryz.ntmps36
      go_wp2_with ((with_reducible refine (CB.out _).mono ?_); rintro r w1 ⟨rfl, hbw⟩; have hz1 := hz.all hbw; obtain ⟨⟨z0, z1, z2, z3⟩, g0, g1, g2, g3⟩ := BoxN.stZ hz1)
      have hZ := hz1.put4 rfl s p A n cc 4
      have hb1 := hb.trans (hbw.mono hb.size)
      refine bodyPost_ret (resRow1 rfl _ _ (w.heap.size + 1 + 1) 57 (svA s p A n cc 4) (0, 0) _ rfl hZ Tryz.underlying57 rfl (by kernel_rfl)) rfl ?_
      exact ⟨A, n, cc, 4, o, rfl, (Ho.out.below0 hb1).put4 hz1 st_ne_node _ _ _ _, hn, (PsF.of_below hb1 _).put4 (by omega) _ _ _ _, fun h => absurd He.out h, fun _ => .inl ⟨rfl, by have := H8.out; omega⟩⟩
    · have d80 : ((n : Int) == 80) = false := by simp; omega
      have He := Lib.hid he
      have H8 := Lib.hid h80
      obtain ⟨hx, hk, hz, hb, hsz⟩ := three_boxes w (svA s p A n cc e) #[.int .i64 k0, .int .i64 k1, .int .i64 k2, .int .i64 k3, .int .i64 k4] svZ 57 39
      clear he h80
      have ho3 := Ho.out.below0 hb
      have hx4 := hx.alloc (.cells #[.int .i64 k0, .int .i64 k1, .int .i64 k2, .int .i64 k3, .int .i64 k4] 39)
      have hz4 := hz.alloc (.cells #[.int .i64 k0, .int .i64 k1, .int .i64 k2, .int .i64 k3, .int .i64 k4] 39)
      have hg4 := boxAt' (((w.alloc (.cells (svA s p A n cc e) 57)).alloc (.cells #[.int .i64 k0, .int .i64 k1, .int .i64 k2, .int .i64 k3, .int .i64 k4] 39)).alloc (.cells svZ 57)) 39 #[.int .i64 k0, .int .i64 k1, .int .i64 k2, .int .i64 k3, .int .i64 k4] (w.heap.size + 1 + 1 + 1) (by simp)
      have hb4 := hb.alloc hb.size (.cells #[.int .i64 k0, .int .i64 k1, .int .i64 k2, .int .i64 k3, .int .i64 k4] 39)
      have ho4 := Ho.out.below0 hb4
      have hcells : CellsAt ((((w.alloc (.cells (svA s p A n cc e) 57)).alloc (.cells #[.int .i64 k0, .int .i64 k1, .int .i64 k2, .int .i64 k3, .int .i64 k4] 39)).alloc (.cells svZ 57)).alloc (.cells #[.int .i64 k0, .int .i64 k1, .int .i64 k2, .int .i64 k3, .int .i64 k4] 39)) (some ⟨w.heap.size + 1 + 1 + 1, 0, none⟩) [.int .i64 k0, .int .i64 k1, .int .i64 k2, .int .i64 k3, .int .i64 k4] := fun _ => ⟨_, 0, rfl, fun j u hj => by
        rw [Nat.zero_add]
        exact hg4.cell (by rw [← Array.getElem?_toList]; exact hj)⟩
      unfold svA svZ at *
      go_enter Tryz.func36, Tryz.ntmps36
      go_wp2_with (at_builtin; refine wpList_append_cells rfl _ _ rfl eNodes rfl ho4.2 (some ⟨w.heap.size + 1 + 1 + 1, 0, none⟩) 1 1 [.int .i64 k0, .int .i64 k1, .int .i64 k2, .int .i64 k3, .int .i64 k4] rfl hcells rfl (fun u hu => by simp at hu; rcases hu with rfl | rfl | rfl | rfl | rfl <;> rfl) (by omega) (by omega) (Nat.zero_le _) ?_; intro v' w5 hp5; have ho5 : OwnN w5 0 v' (n + 1) (o ++ [k0, k1, k2, k3, k4]) := (⟨by simp [hlen]; omega, by have := hp5.own; rw [List.map_append]; exact this⟩); have hx5 := (hp5.grew.block _ hx4.lt (Ne.symm (ho4.not_box hx4 st_ne_node))).trans hx4; have hz5 := (hp5.grew.block _ hz4.lt (Ne.symm (ho4.not_box hz4 st_ne_node))).trans hz4; obtain ⟨A', c', rfl⟩ := ho5.form; obtain ⟨⟨x0, x1, x2, x3⟩, f0, f1, f2, f3⟩ := BoxN.st4 hx5; obtain ⟨⟨z0, z1, z2, z3⟩, g0, g1, g2, g3⟩ := BoxN.stZ hz5)
      have hx6 : BoxN (w5.setCell ⟨w.heap.size, 2, none⟩ (.slice A' (n + 1) c')) w.heap.size 57 (svA s p A' (n + 1) c' e) := BoxN.set hx5 2 _
      have hz6 := BoxN.other (a := ⟨w.heap.size, 2, none⟩) hz5 (by show w.heap.size + 1 + 1 ≠ w.heap.size; omega) (.slice A' (n + 1) c')
      have ho6 := ho5.setBox hx5 st_ne_node 2 (.slice A' (n + 1) c')
      have hZ := BoxN.put4 hz6 rfl s p A' (n + 1) c' e
      have hF : PsF w w5 (.slice A n cc) (.slice A' (n + 1) c') := (PsF.of_below hb4 _).trans ⟨(QKeeps.refl _ _).grown hp5.grew fun g hg => .inl hg, fun g hg => hp5.block.elim (fun h => .inl (h.symm.trans hg)) (fun h => .inr (by have h2 := h.symm.trans hg; injection h2 with h2; have := hb4.size; omega))⟩
      refine bodyPost_ret (resRow1 rfl _ _ (w.heap.size + 1 + 1) 57 (svA s p A' (n + 1) c' e) (0, 0) _ rfl hZ Tryz.underlying57 rfl (by kernel_rfl)) rfl ?_
      exact ⟨A', n + 1, c', e, _, rfl, ho6.put4 hz6 st_ne_node _ _ _ _, by have := H8.out; omega, ((hF.setNew (p := ⟨w.heap.size, 2, none⟩) (Nat.le_refl _) _).put4 (by omega) _ _ _ _), fun h => rfl, fun _ => .inr ⟨He.out, rfl, rfl, by have := H8.out; omega⟩⟩
  · have d0 : ((e : Int) != 0) = true := by simp; omega
    have He := Lib.hid he
    clear he
    unfold svA at *
    go_enter Tryz.func36, Tryz.ntmps36
    go_wp2_with fail
    obtain ⟨hx, hk, hz, hb, hsz⟩ := three_boxes w #[.string s, .int .i64 p, .slice A n cc, .int .i64 e] #[.int .i64 k0, .int .i64 k1, .int .i64 k2, .int .i64 k3, .int .i64 k4] #[.string s, .int .i64 p, .slice A n cc, .int .i64 e] 57 39
    refine bodyPost_ret (resRow1 rfl _ _ (w.heap.size + 1 + 1) 57 (svA s p A n cc e) (0, 0) _ rfl hz Tryz.underlying57 rfl (by kernel_rfl)) rfl ?_
    exact ⟨A, n, cc, e, o, rfl, Ho.out.below0 hb, hn, PsF.of_below hb _, fun h => rfl, fun h => absurd h He.out⟩

theorem ends_at {s : ByteArray} {p : Nat} (h : p < s.size) : endsL (s.data.toList.drop p) = ((s[p].toNat : Int) == 125) := by
  rw [List.drop_eq_getElem_cons (by simpa using h)]
  show (s.data.toList[p] == 125) = _
  rw [show s.data.toList[p] = s[p] from rfl, Bool.eq_iff_iff]
  simp [← UInt8.toNat_inj]
  omega
theorem ends_end {s : ByteArray} {p : Nat} (h : ¬ p < s.size) : endsL (s.data.toList.drop p) = true := by rw [List.drop_eq_nil_of_le (by simpa using Nat.le_of_not_lt h)]; rfl
set_option maxHeartbeats 4000000 in
theorem REnds_any {s : ByteArray} {p e : Nat} {A : Option Addr} {n cc : Nat} {w : World} {b : Bool} (hs : s.size ≤ 300) (hp : p ≤ s.size) (hb : (decide (e ≠ 0) || endsL (s.data.toList.drop p)) = b) :
    Calls Tryz.prog 34 #[.agg (svA s p A n cc e)] w fun r w' => r = .returned (.bool b) ∧ Below w.heap.size w w' := by
  have hbw : Below w.heap.size w (w.alloc (.cells #[.string s, .int .i64 p, .slice A n cc, .int .i64 e] 57)) := (Below.refl _ _).alloc (Nat.le_refl _) _
  by_cases he : e = 0
  · have d0 : ((e : Int) != 0) = false := by simp; omega
    rw [decide_eq_false (by simpa using he), Bool.false_or] at hb
    by_cases hlt : p < s.size
    · rw [ends_at hlt] at hb
      have hlt2 : (p : Int) < (s.size : Int) := by omega
      have hp0 : (0 : Int) ≤ (p : Int) := by omega
      have d1 : decide ((p : Int) ≥ (s.size : Int)) = false := by simp; omega
      have d2 : decide (s.size ≤ p) = false := by simp; omega
      have Hb := Lib.hid hb
      clear he hb
      unfold svA at *
      go_enter Tryz.func34, Tryz.ntmps34
      go_wp2_with fail
      go_ret
      exact ⟨by rw [← Hb.out]; rfl, hbw⟩
    · rw [ends_end hlt] at hb
      have d1 : decide ((p : Int) ≥ (s.size : Int)) = true := by simp; omega
      have d2 : decide (s.size ≤ p) = true := by simp; omega
      subst hb
      clear he
      unfold svA at *
      go_enter Tryz.func34, Tryz.ntmps34
      go_wp2_with fail
      go_ret
      exact ⟨rfl, hbw⟩
  · have d0 : ((e : Int) != 0) = true := by simp; omega
    rw [decide_eq_true (by simpa using he), Bool.true_or] at hb
    subst hb
    clear he
    unfold svA at *
    go_enter Tryz.func34, Tryz.ntmps34
    go_wp2_with fail
    go_ret
    exact ⟨rfl, hbw⟩

/-- The name that is next, if there is one and nothing is wrong yet. -/
def nextName (s : ByteArray) (p e : Nat) : Option Nat := if e = 0 then (s.data.toList.drop p).head?.bind nameOf else none
theorem let_at {k : Nat} (h : k < 6) : (⟨#[97, 98, 99, 100, 101, 102]⟩ : ByteArray).data.toList[k]? = some (UInt8.ofNat (97 + k)) := by
  have : k = 0 ∨ k = 1 ∨ k = 2 ∨ k = 3 ∨ k = 4 ∨ k = 5 := by omega
  rcases this with rfl | rfl | rfl | rfl | rfl | rfl <;> rfl
theorem name_let {k : Nat} (h : k < 6) : nameOf (UInt8.ofNat (97 + k)) = some k := by
  have : k = 0 ∨ k = 1 ∨ k = 2 ∨ k = 3 ∨ k = 4 ∨ k = 5 := by omega
  rcases this with rfl | rfl | rfl | rfl | rfl | rfl <;> rfl
theorem name_hit {s : ByteArray} {p e k : Nat} (hk : k < 6) (h : isNext s p e (UInt8.ofNat (97 + k)) = true) : nextName s p e = some k := by
  obtain ⟨he, _, l, hd⟩ := isNext_yes h
  unfold nextName
  rw [if_pos he, hd]
  exact name_let hk
theorem name_miss {s : ByteArray} {p e : Nat} (h : ∀ j, j < 6 → isNext s p e (UInt8.ofNat (97 + j)) = false) : nextName s p e = none := by
  unfold nextName
  by_cases he : e = 0
  · rw [if_pos he]
    cases hd : (s.data.toList.drop p).head? with
    | none => rfl
    | some c =>
      show nameOf c = none
      unfold nameOf
      rw [if_neg]
      intro hc
      have h2 := of_decide_eq_false (h (c.toNat - 97) (by omega))
      refine h2 ⟨he, ?_⟩
      rw [hd, show 97 + (c.toNat - 97) = c.toNat by omega]
      simp
  · rw [if_neg he]
theorem let_byte {k : Nat} (h : k < 6) (h2 : k < (⟨#[97, 98, 99, 100, 101, 102]⟩ : ByteArray).size) : ((UInt8.ofNat (97 + k)).toNat : Int) = ((⟨#[97, 98, 99, 100, 101, 102]⟩ : ByteArray)[k]'h2).toNat := by
  have : k = 0 ∨ k = 1 ∨ k = 2 ∨ k = 3 ∨ k = 4 ∨ k = 5 := by omega
  rcases this with rfl | rfl | rfl | rfl | rfl | rfl <;> rfl
def nameRes (s : ByteArray) (p e : Nat) (A : Option Addr) (n cc : Nat) : Option Nat → Value
  | some k => .tuple #[.agg (svA s (p + 1) A n cc e), .int .i64 k]
  | none => .tuple #[.agg (svA s p A n cc e), .int .i64 (-1)]
set_option maxHeartbeats 8000000 in
theorem RName_any {s : ByteArray} {p e : Nat} {A : Option Addr} {n cc : Nat} {w : World} (hs : s.size ≤ 300) (hp : p ≤ s.size) :
    Calls Tryz.prog 49 #[.agg (svA s p A n cc e)] w fun r w' => r = .returned (nameRes s p e A n cc (nextName s p e)) ∧ Below w.heap.size w w' := by
  obtain ⟨hb0, hb1, hb2⟩ := two_boxes w (svA s p A n cc e) svZ 57
  have hz2 : Hid (w.heap.size + 1 < ((w.alloc (.cells (svA s p A n cc e) 57)).alloc (.cells svZ 57)).heap.size) := Lib.hid (by simp)
  unfold svA svZ at *
  go_enter Tryz.func49, Tryz.ntmps49
  go_wp2_with fail
  generalize ((w.alloc (.cells #[.string s, .int .i64 p, .slice A n cc, .int .i64 e] 57)).alloc (.cells #[.string ⟨#[]⟩, .int .i64 0, .slice none 0 0, .int .i64 0] 57)) = w0 at *
  go_loopw [4] (fun i wr => ∃ k : Nat, k ≤ 6 ∧ i = .int .i64 k ∧ Hid (∀ j, j < k → isNext s p e (UInt8.ofNat (97 + j)) = false) ∧ Below w0.heap.size w0 wr) (fun i _ => 6 - (intOf i).toNat)
  case atStart => exact ⟨0, Nat.zero_le _, rfl, Lib.hid (fun j hj => by omega), Below.refl _ _⟩
  case round =>
    obtain ⟨k, hk, rfl, hall, hbr⟩ := hrel
    have h0 := hb0.all hbr
    have h1 := hb1.all hbr
    have hbw := hb2.trans (hbr.mono hb2.size)
    have hsz := hbr.size
    have hz3 := hz2.out
    by_cases hlt : k < 6
    · have hk6 : (k : Int) < 6 := by omega
      obtain ⟨⟨x0, x1, x2, x3⟩, f0, f1, f2, f3⟩ := BoxN.st4 h0
      have hxl := h0.lt
      have hKeep := Lib.hid (fun V (hV : Below wr.heap.size wr V) => (⟨(hV.cell (p := ⟨w.heap.size, 0, none⟩) hxl).trans x0, (hV.cell (p := ⟨w.heap.size, 1, none⟩) hxl).trans x1, (hV.cell (p := ⟨w.heap.size, 2, none⟩) hxl).trans x2, (hV.cell (p := ⟨w.heap.size, 3, none⟩) hxl).trans x3⟩ : V.cell? ⟨w.heap.size, 0, none⟩ = some (.string s) ∧ V.cell? ⟨w.heap.size, 1, none⟩ = some (.int .i64 p) ∧ V.cell? ⟨w.heap.size, 2, none⟩ = some (.slice A n cc) ∧ V.cell? ⟨w.heap.size, 3, none⟩ = some (.int .i64 e)))
      have CS := Lib.hid (fun V (x : Int) (hx : ((UInt8.ofNat (97 + k)).toNat : Int) = x) (hV : Below wr.heap.size wr V) => (RSign_any (A := A) (n := n) (cc := cc) (e := e) (p := p) (w := V) hx hs hp).mono fun r w' ⟨he, hb⟩ => (⟨he, hV.trans (hb.mono hV.size), hb⟩ : _ ∧ Below wr.heap.size wr w' ∧ Below V.heap.size V w'))
      have hbA : Below wr.heap.size wr wr.drew := (Below.refl _ _).drew
      have hbB : Below wr.heap.size wr ((wr.alloc (.cells #[.string ⟨#[]⟩, .int .i64 0, .slice none 0 0, .int .i64 0] 57)).drew) := ((Below.refl _ _).alloc (Nat.le_refl _) _).drew
      have hZ : BoxN ((wr.alloc (.cells #[.string ⟨#[]⟩, .int .i64 0, .slice none 0 0, .int .i64 0] 57)).drew) wr.heap.size 57 #[.string ⟨#[]⟩, .int .i64 0, .slice none 0 0, .int .i64 0] := (BoxN.new wr _ _).drew
      have hlb := let_byte hlt (show k < 6 from hlt)
      obtain ⟨b, hb⟩ : ∃ b, isNext s p e (UInt8.ofNat (97 + k)) = b := ⟨_, rfl⟩
      rw [hb] at CS
      obtain ⟨q, hq⟩ : ∃ q, (if b = true then p + 1 else p) = q := ⟨_, rfl⟩
      rw [hq] at CS
      have Hb := Lib.hid hb
      have Hq := Lib.hid hq
      clear hb hq
      go_wp2_with fail
      go_cut [5, 6] from 7 to 20 (fun x5 x6 wx => ∃ (xc : Nat), x5 = .pointer (some ⟨xc, 0, none⟩) ∧ x6 = .bool b ∧ BoxN wx xc 57 (svA s q A n cc e) ∧ Below wr.heap.size wr wx)
      case first =>
        go_region_held3 (fun V => V.cell? ⟨w.heap.size, 0, none⟩ = some (.string s) ∧ V.cell? ⟨w.heap.size, 1, none⟩ = some (.int .i64 p) ∧ V.cell? ⟨w.heap.size, 2, none⟩ = some (.slice A n cc) ∧ V.cell? ⟨w.heap.size, 3, none⟩ = some (.int .i64 e))
          ((refine hKeep.out _ ?_; repeat (first | assumption | exact hbA | exact hbB | refine Below.setCell ?_ (by simp) _ | refine Below.alloc ?_ (by first | exact Nat.le_refl _ | exact Below.size (by assumption)) _ | refine Below.drew ?_)))
          ((go_at_call 46; (with_reducible refine (CS.out _ _ hlb (by first | exact hbA | exact hbB)).mono ?_); rintro r w5 ⟨rfl, hb5, hbv⟩; try (have hz5 := BoxN.all hZ hbv; obtain ⟨⟨z0, z1, z2, z3⟩, g0, g1, g2, g3⟩ := BoxN.stZ hz5)))
        all_goals (go_wp2_with fail; go_meet)
        · exact ⟨_, rfl, rfl, BoxN.new _ _ _, hb5.alloc hb5.size _⟩
        · exact ⟨_, rfl, rfl, hz5.put4 rfl _ _ _ _ _ _, below_put4 hb5 (Nat.le_refl _) _ _ _ _⟩
        · exact ⟨_, rfl, rfl, hz5.put4 rfl _ _ _ _ _ _, below_put4 hb5 (Nat.le_refl _) _ _ _ _⟩
      case rest =>
        obtain ⟨xc, rfl, rfl, hC, hb5⟩ := hcut
        have h05 := h0.all hb5
        have h15 := h1.all hb5
        have hbw5 := hbw.trans (hb5.mono hbw.size)
        clear CS hbA hbB hZ hKeep x0 x1 x2 x3 f0 f1 f2 f3
        cases b with
        | false =>
          have Hn := Lib.hid (show ∀ j, j < k + 1 → isNext s p e (UInt8.ofNat (97 + j)) = false from fun j hj => by
            rcases Nat.lt_or_ge j k with hjk | hjk
            · exact hall.out j hjk
            · obtain rfl : j = k := by omega
              exact Hb.out)
          go_wp2_with fail
          refine ⟨⟨k + 1, ?ya, ?yb, Hn, hbr.trans (hb5.mono hsz)⟩, ?yd⟩
          case ya => omega
          case yb => go_num
          case yd => simp [intOf]; omega
        | true =>
          have hqp := Hq.out
          rw [if_pos rfl] at hqp
          subst hqp
          obtain ⟨⟨x0, x1, x2, x3⟩, f0, f1, f2, f3⟩ := BoxN.st4 hC
          obtain ⟨⟨z0, z1, z2, z3⟩, g0, g1, g2, g3⟩ := BoxN.stZ h15
          have Hn := Lib.hid (name_hit hlt Hb.out)
          go_wp2_with fail
          have hZ := h15.put4 rfl s (p + 1) A n cc e
          refine bodyPost_ret (resRowTmp rfl _ _ (w.heap.size + 1) 57 (svA s (p + 1) A n cc e) (0, 0) _ rfl hZ Tryz.underlying57 rfl (by kernel_rfl)) rfl ?_
          exact ⟨by rw [Hn.out]; rfl, below_put4 hbw5 (Nat.le_succ _) _ _ _ _⟩
    · obtain rfl : k = 6 := by omega
      obtain ⟨⟨x0, x1, x2, x3⟩, f0, f1, f2, f3⟩ := BoxN.st4 h0
      obtain ⟨⟨z0, z1, z2, z3⟩, g0, g1, g2, g3⟩ := BoxN.stZ h1
      have Hn := Lib.hid (name_miss hall.out)
      go_wp2_with fail
      have hZ := h1.put4 rfl s p A n cc e
      refine bodyPost_ret (resRowTmp rfl _ _ (w.heap.size + 1) 57 (svA s p A n cc e) (0, 0) _ rfl hZ Tryz.underlying57 rfl (by kernel_rfl)) rfl ?_
      exact ⟨by rw [Hn.out]; rfl, below_put4 hbw (Nat.le_succ _) _ _ _ _⟩
end Go.Proofs.YtfpghfmdkbdojaaGreatDoor
