/-
  Contract: (*kernel.Kernel).Save: the text of what it holds.
-/
import Derived.Test.YtanlmfnhlldkeaaGreatDoorKerC
import Derived.Deep.RegionHeld3
import Derived.Deep.CutRange
namespace Go.Proofs.YtanlmfnhlldkeaaGreatDoor
open Go.RowKit
set_option maxRecDepth 100000
set_option linter.unusedVariables false

theorem fresh_built (w : World) : Built w.heap.size w.heap.size [] (w.alloc (.cells #[.pointer none, .slice none 0 0] 82)) :=
  .inl ⟨Nat.le_refl _, .slice none 0 0, heap_alloc_new w _, World.ownsRowF_nil _ _ _ _, by simp [Value.ownBlock]⟩
section
variable {role : Nat → Nat} {lo hi : Nat} {w : World} {p : Nat} {K : KF} {L : List (List Int)} {P : List Int} {q : Nat} {T : List Int} {s : KState} {t : Nat}
/-- The six cells of a part. -/
def PartCells (V : World) (g i : Nat) (x : KPlace) (v : Value) : Prop :=
  V.cell? ⟨g, i, none⟩ = some (.int .i64 x.pc) ∧ V.cell? ⟨g, i + 1, none⟩ = some (.int .i64 (x.regs 0)) ∧ V.cell? ⟨g, i + 2, none⟩ = some (.int .i64 (x.regs 1)) ∧ V.cell? ⟨g, i + 3, none⟩ = some (.int .i64 (x.regs 2)) ∧ V.cell? ⟨g, i + 4, none⟩ = some (.int .i64 (x.regs 3)) ∧ V.cell? ⟨g, i + 5, none⟩ = some v
theorem KernAt.cells6 (h : KernAt role lo hi w p K L P q T s t) {i : Nat} (hi : i < L.length) : ∃ v, PartCells w K.gp (i * 6) (s.parts i) v ∧ RowW role (4 + 2 * i) w v (s.parts i).shown := by
  obtain ⟨a1, a2, ⟨v, a3, a4⟩, _⟩ := h.part hi
  exact ⟨v, ⟨a1, a2 0 (by decide), a2 1 (by decide), a2 2 (by decide), a2 3 (by decide), a3⟩, a4⟩

set_option maxHeartbeats 8000000 in
theorem Save_any (h : KernAt role lo hi w p K L P q T s t) {u : Nat} (hI : KInv s u) (hu : u ≤ 100000) (ht : t ≤ 300) (hn5 : L.length ≤ 5) (hq6 : q ≤ 6) (hP : Pow10 w.heap.size w) :
    Calls Tryz.prog 14 #[.pointer (some ⟨p, 0, none⟩)] w fun e w' => e = .returned (.string ⟨(saveH s t L.length q).toArray⟩) ∧ Below w.heap.size w w' := by
  obtain ⟨-, -, -, x3, x4, x5⟩ := h.words
  have HK := Lib.hid h
  have HInv := Lib.hid hI
  have HP := Lib.hid hP
  have hx : BoxN (w.alloc (.cells #[.pointer none, .slice none 0 0] 82)) w.heap.size 82 #[.pointer none, .slice none 0 0] := BoxN.new w _ _
  have hbl0 := (Below.refl w.heap.size w).alloc (Nat.le_refl _) (.cells #[.pointer none, .slice none 0 0] 82)
  clear h hP
  go_enter Tryz.func14, Tryz.ntmps14
  have x5b := (hbl0.cell (p := ⟨p, 5, none⟩) (block_lt x5)).trans x5
  have hs1 : (w.alloc (.cells #[.pointer none, .slice none 0 0] 82)).heap.size = w.heap.size + 1 := by simp
  have hB0 : Built w.heap.size w.heap.size [] (w.alloc (.cells #[.pointer none, .slice none 0 0] 82)) := fresh_built w
  go_wp2_with fail
  generalize w.alloc (.cells #[.pointer none, .slice none 0 0] 82) = w1 at *
  rw [← hs1]
  have hb11 := (Below.refl w1.heap.size w1).alloc (Nat.le_refl _) (.cells #[.int .i64 t] 3)
  have hbl1 := hbl0.trans (hb11.mono hbl0.size)
  have hsz1 := hbl1.size
  refine (words_any (B := w.heap.size) (cs := []) (built_below hB0 hb11) (intRow_one w1 t (by omega)) rfl (by simp) hsz1 (HP.out.next hbl1 (Nat.le_refl _) (Nat.le_refl _)) (tick_small ht)).mono ?_
  rintro e w2 ⟨rfl, hbu2, hb2, _⟩
  have hbl2 := hbl1.trans hb2
  have hsz2 := hbl2.size
  have hlen2 : (Lib.byteCells ([] ++ wordsT [(t : Int)])).length ≤ 22 := by
    have := wordsT_len (tick_small ht)
    simpa [Lib.byteCells] using this
  clear hB0 hb11 hbl1 hsz1 hb2 hx x5b hbl0 hs1
  go_wp2_with fail
  refine (WriteByte_any w.heap.size w.heap.size _ 10 w2 hbu2 (by omega) hsz2).mono ?_
  rintro e w3 ⟨rfl, hbu3, hb3, _⟩
  have hbl3 := hbl2.trans hb3
  have hbu3' : Built w.heap.size w.heap.size (Lib.byteCells (saveP s t 0)) w3 := by
    rw [saveP, byteCells_append]; exact hbu3
  have Hl1 := Lib.hid (show ∀ i, i ≤ L.length → (saveP s t i).length ≤ 12000000 from fun i hi => by have := saveP_len HInv.out hu ht i; omega)
  have Hl2 := Lib.hid (show ∀ j, j ≤ q → (saveH s t L.length j).length ≤ 13000000 from fun j hj => by have := saveH_len HInv.out hu ht hn5 j; omega)
  have x3c := (hbl3.cell (p := ⟨p, 3, none⟩) (block_lt x3)).trans x3
  clear hbu2 hb3 hbu3 hbl2 hsz2 hlen2
  go_wp2_with fail
  have hn64 : L.length ≤ 5 := hn5
  have HLn := Lib.hid (show L.length = L.length from rfl)
  obtain ⟨n, hn⟩ : ∃ n, L.length = n := ⟨_, rfl⟩
  have Hn := Lib.hid hn
  rw [hn] at x3 x3c hn5 hn64 Hl1 Hl2 ⊢
  clear hn HLn
  go_loopw [20] (fun i wr => ∃ k : Nat, k ≤ n ∧ i = .int .i64 k ∧ Hid (Built w.heap.size w.heap.size (Lib.byteCells (saveP s t k)) wr) ∧ Below w.heap.size w wr) (fun i _ => n - (intOf i).toNat)
  case atStart => exact ⟨0, Nat.zero_le _, rfl, Lib.hid hbu3', hbl3⟩
  case round =>
    clear hbu3' hbl3 x3c
    obtain ⟨k, hk, rfl, hbu, hbr⟩ := hrel
    have hsz := hbr.size
    by_cases hlt : k < n
    · have dlt : decide ((k : Int) < (n : Int)) = true := decide_eq_true (by omega)
      obtain ⟨v, ⟨c0, c1, c2, c3, c4, c5⟩, hrow⟩ := (HK.out.below hbr).cells6 (i := k) (by rw [Hn.out]; exact hlt)
      obtain ⟨A, cc, rfl, hi⟩ := hrow.form
      have hwlt : w.heap.size < wr.heap.size := (built_cells hbu.out).2.elim fun c h => by obtain ⟨t', f, h⟩ := h; exact (Array.getElem?_eq_some_iff.1 h).1
      have hx6 := BoxN.new wr 76 #[.int .i64 (s.parts k).pc, .int .i64 ((s.parts k).regs 0), .int .i64 ((s.parts k).regs 1), .int .i64 ((s.parts k).regs 2), .int .i64 ((s.parts k).regs 3), .slice A (s.parts k).shown.length cc]
      have hbq := (Below.refl wr.heap.size wr).alloc (Nat.le_refl _) (.cells #[.int .i64 (s.parts k).pc, .int .i64 ((s.parts k).regs 0), .int .i64 ((s.parts k).regs 1), .int .i64 ((s.parts k).regs 2), .int .i64 ((s.parts k).regs 3), .slice A (s.parts k).shown.length cc] 76)
      have hsq : (wr.alloc (.cells #[.int .i64 (s.parts k).pc, .int .i64 ((s.parts k).regs 0), .int .i64 ((s.parts k).regs 1), .int .i64 ((s.parts k).regs 2), .int .i64 ((s.parts k).regs 3), .slice A (s.parts k).shown.length cc] 76)).heap.size = wr.heap.size + 1 := by simp
      have Hnum := Lib.hid (show partNums (s.parts k) = ([((s.parts k).pc : Int)] ++ [(s.parts k).regs 0, (s.parts k).regs 1, (s.parts k).regs 2, (s.parts k).regs 3]) ++ (s.parts k).shown from rfl)
      have Hsm := Lib.hid (HInv.out.nums k)
      have hshl := (HInv.out.shown k).1
      have Hst := Lib.hid (show saveP s t (k + 1) = (saveP s t k ++ wordsT (partNums (s.parts k))) ++ [10] from rfl)
      have hcl := Hl1.out k (by omega)
      go_wp2_with fail
      generalize wr.alloc (.cells #[.int .i64 (s.parts k).pc, .int .i64 ((s.parts k).regs 0), .int .i64 ((s.parts k).regs 1), .int .i64 ((s.parts k).regs 2), .int .i64 ((s.parts k).regs 3), .slice A (s.parts k).shown.length cc] 76) = wq at *
      generalize hpn : partNums (s.parts k) = pn at *
      generalize (s.parts k).regs 0 = r0 at *
      generalize (s.parts k).regs 1 = r1 at *
      generalize (s.parts k).regs 2 = r2 at *
      generalize (s.parts k).regs 3 = r3 at *
      generalize (s.parts k).pc = pc at *
      generalize (s.parts k).shown = sh at *
      clear hpn c0 c1 c2 c3 c4 c5 hrow
      have hix : IntsAt wq A sh := hi.below hbq
      have Hi := Lib.hid hix
      have hbrq : Below w.heap.size w wq := hbr.trans (hbq.mono hbr.size)
      have Hbuq := Lib.hid (built_below hbu.out hbq)
      have hKeep := Lib.hid (fun V (hV : Below wq.heap.size wq V) => (⟨(hV.cell (p := ⟨wr.heap.size, 0, none⟩) hx6.lt).trans (hx6.cell rfl), (hV.cell (p := ⟨wr.heap.size, 1, none⟩) hx6.lt).trans (hx6.cell rfl), (hV.cell (p := ⟨wr.heap.size, 2, none⟩) hx6.lt).trans (hx6.cell rfl), (hV.cell (p := ⟨wr.heap.size, 3, none⟩) hx6.lt).trans (hx6.cell rfl), (hV.cell (p := ⟨wr.heap.size, 4, none⟩) hx6.lt).trans (hx6.cell rfl), (hV.cell (p := ⟨wr.heap.size, 5, none⟩) hx6.lt).trans (hx6.cell rfl)⟩ :
        V.cell? ⟨wr.heap.size, 0, none⟩ = some (.int .i64 pc) ∧ V.cell? ⟨wr.heap.size, 1, none⟩ = some (.int .i64 r0) ∧ V.cell? ⟨wr.heap.size, 2, none⟩ = some (.int .i64 r1) ∧ V.cell? ⟨wr.heap.size, 3, none⟩ = some (.int .i64 r2) ∧ V.cell? ⟨wr.heap.size, 4, none⟩ = some (.int .i64 r3) ∧ V.cell? ⟨wr.heap.size, 5, none⟩ = some (.slice A sh.length cc)))
      have H4 := Lib.hid (fun V (hV : Below wq.heap.size wq V) => show IntsAt V (some ⟨wr.heap.size, 1, none⟩) [r0, r1, r2, r3] from fun _ => ⟨wr.heap.size, 1, rfl, fun j x hj => by
        obtain ⟨_, e1, e2, e3, e4, _⟩ := hKeep.out V hV
        match j, hj with
        | 0, hj => simp at hj; subst hj; exact e1
        | 1, hj => simp at hj; subst hj; exact e2
        | 2, hj => simp at hj; subst hj; exact e3
        | 3, hj => simp at hj; subst hj; exact e4⟩)
      have HK6 := Lib.hid (fun (V V' : World) (hV : Below wq.heap.size wq V) (hk : Lib.OthersKept 5 (some w.heap.size) V V') => show V'.cell? ⟨wr.heap.size, 0, none⟩ = some (.int .i64 pc) ∧ V'.cell? ⟨wr.heap.size, 1, none⟩ = some (.int .i64 r0) ∧ V'.cell? ⟨wr.heap.size, 2, none⟩ = some (.int .i64 r1) ∧ V'.cell? ⟨wr.heap.size, 3, none⟩ = some (.int .i64 r2) ∧ V'.cell? ⟨wr.heap.size, 4, none⟩ = some (.int .i64 r3) ∧ V'.cell? ⟨wr.heap.size, 5, none⟩ = some (.slice A sh.length cc) from by
        have hb : BoxN V' wr.heap.size 76 #[.int .i64 pc, .int .i64 r0, .int .i64 r1, .int .i64 r2, .int .i64 r3, .slice A sh.length cc] := hk _ _ (hx6.all hV) (fun e => by injection e with e; omega) (fun c fz e => by injection e with _ e; exact absurd e (by decide))
        exact ⟨hb.cell rfl, hb.cell rfl, hb.cell rfl, hb.cell rfl, hb.cell rfl, hb.cell rfl⟩)
      have hsl := fun V : World => slice_all V wr.heap.size
      have hpl := hx6.lt
      have hszq := hbrq.size
      have hb01 : Below wq.heap.size wq (wq.alloc (.cells #[.int .i64 pc] 3)).drew := ((Below.refl _ _).alloc (Nat.le_refl _) _).drew
      have ho01 : OwnI (wq.alloc (.cells #[.int .i64 pc] 3)).drew wq.heap.size (.slice (some ⟨wq.heap.size, 0, none⟩) 1 1) [(pc : Int)] := (own_one wq pc (Nat.le_refl _)).drewN 1
      have hsz01 := hb01.size
      have Hsq := Lib.hid hsq
      clear hx6 hi hbu hbq hbr hix hsq
      go_region_held3 (fun V => V.cell? ⟨wr.heap.size, 0, none⟩ = some (.int .i64 pc) ∧ V.cell? ⟨wr.heap.size, 1, none⟩ = some (.int .i64 r0) ∧ V.cell? ⟨wr.heap.size, 2, none⟩ = some (.int .i64 r1) ∧ V.cell? ⟨wr.heap.size, 3, none⟩ = some (.int .i64 r2) ∧ V.cell? ⟨wr.heap.size, 4, none⟩ = some (.int .i64 r3) ∧ V.cell? ⟨wr.heap.size, 5, none⟩ = some (.slice A sh.length cc))
        ((first | exact HK6.out _ _ hb05 hk6 | (refine hKeep.out _ ?_; repeat (first | assumption | exact Below.refl _ _ | refine Below.drew ?_ | refine Below.alloc ?_ (by first | exact Nat.le_refl _ | exact Below.size (by assumption) | simp) _))))
        ((first
          | (refine step_join_int (by rfl) _ _ (by rfl) (base := wq.heap.size) (xs := [(pc : Int)]) (ys := [r0, r1, r2, r3]) (by rfl) ho01 (some ⟨wr.heap.size, 1, none⟩) _ 4 (by rfl) rfl (H4.out _ hb01) (by simp) hsz01 ?_; intro B4 q4 cc4 w4 hq4 ho4 hbl4; have hb04 := hbl4 _ hb01)
          | (refine step_join_int (by rfl) _ _ (by rfl) (base := wq.heap.size) (by rfl) ho4 A _ cc (by rfl) rfl (Hi.out.below hb04) (by simp; omega) hb04.size ?_; intro B5 q5 cc5 w5 hq5 ho5 hbl5; have hb05 := hbl5 _ hb04)
          | (go_at_call 33; refine (words_any (B := w.heap.size) (b := w.heap.size) (cs := saveP s t k) (l := pn) (built_below Hbuq.out hb05) (by rw [Hnum.out]; exact intRow_own ho5 (by omega)) (by rw [Hnum.out]; exact hq5.out.symm) (by have := hq5.out; simp at this; omega) (Nat.le_trans hszq hb05.size) (HP.out.next (hbrq.trans (hb05.mono hszq)) (Nat.le_refl _) (Nat.le_refl _)) Hsm.out).mono ?_; rintro e w6 ⟨rfl, hbu6, hb6, hk6⟩)
          | fail))
      go_wp2_with fail
      have hbr6 : Below w.heap.size w w6 := (hbrq.trans (hb05.mono hszq)).trans hb6
      have hsz6 := hbr6.size
      have hpnl : pn.length = 5 + sh.length := by rw [Hnum.out]; simp; omega
      have hwl := wordsT_len Hsm.out
      refine (WriteByte_any w.heap.size w.heap.size _ 10 w6 hbu6 (by simp [Lib.byteCells]; omega) hsz6).mono ?_
      rintro e w7 ⟨rfl, hbu7, hb7, _⟩
      go_wp2_with fail
      refine ⟨⟨k + 1, ?ya, ?yb, ?yc, hbr6.trans hb7⟩, ?yd⟩
      case ya => omega
      case yb => go_num
      case yc => exact Lib.hid (by rw [Hst.out, byteCells_append _ [10]]; exact hbu7)
      case yd => simp [intOf]; omega
    · obtain rfl : k = n := by omega
      have dlt : decide ((k : Int) < (k : Int)) = false := by simp
      have x4c := (hbr.cell (p := ⟨p, 4, none⟩) (block_lt x4)).trans x4
      have hbuH : Hid (Built w.heap.size w.heap.size (Lib.byteCells (saveH s t k 0)) wr) := hbu
      clear hbu
      go_wp2_with fail
      obtain ⟨wz, hwz⟩ : ∃ wz, wz = wr := ⟨wr, rfl⟩
      subst hwz
      go_loopw [41, 7] (fun i _ wr => ∃ j : Nat, j ≤ q ∧ i = .int .i64 j ∧ Hid (Built w.heap.size w.heap.size (Lib.byteCells (saveH s t k j)) wr) ∧ Below w.heap.size w wr) (fun i _ _ => q - (intOf i).toNat)
      case atStart => exact ⟨0, Nat.zero_le _, rfl, hbuH, hbr⟩
      case round =>
        clear hbuH hbr x4c
        obtain ⟨j, hj, rfl, hbu, hbr⟩ := hrel
        have hsz := hbr.size
        by_cases hlt : j < q
        · have dlt2 : decide ((j : Int) < (q : Int)) = true := decide_eq_true (by omega)
          have hKr := HK.out.below hbr
          obtain ⟨⟨v, c0, hrow⟩, _⟩ := hKr.port hlt
          obtain ⟨A, cc, rfl, hi⟩ := hrow.form
          have hblk := (built_cells hbu.out).2
          have hr0 : role w.heap.size = 0 := HK.out.new _ (Nat.le_refl _)
          have HR := Lib.hid (intRow_row hrow (by omega) hr0)
          have hh := (HInv.out.held j).1
          have Hsm := Lib.hid (HInv.out.heldSmall j)
          have hwl := wordsT_len Hsm.out
          have hcl := Hl2.out j (by omega)
          have Hst := Lib.hid (show saveH s t k (j + 1) = (saveH s t k j ++ wordsT (s.held j)) ++ [10] from rfl)
          clear hrow hi hKr hblk
          generalize s.held j = hl at *
          go_wp2_with fail
          refine (words_any (B := w.heap.size) (b := w.heap.size) (cs := saveH s t k j) hbu.out HR.out rfl (by omega) hsz (HP.out.next hbr (Nat.le_refl _) (Nat.le_refl _)) Hsm.out).mono ?_
          rintro e w6 ⟨rfl, hbu6, hb6, _⟩
          have hbr6 := hbr.trans hb6
          have hsz6 := hbr6.size
          go_wp2_with fail
          refine (WriteByte_any w.heap.size w.heap.size _ 10 w6 hbu6 (by simp [Lib.byteCells]; omega) hsz6).mono ?_
          rintro e w7 ⟨rfl, hbu7, hb7, _⟩
          go_wp2_with fail
          refine ⟨⟨j + 1, ?za, ?zb, ?zc, hbr6.trans hb7⟩, ?zd⟩
          case za => omega
          case zb => go_num
          case zc => exact Lib.hid (by rw [Hst.out, byteCells_append _ [10]]; exact hbu7)
          case zd => simp [intOf]; omega
        · obtain rfl : j = q := by omega
          have dlt2 : decide ((j : Int) < (j : Int)) = false := by simp
          have HS := Lib.hid (Tryz.Builder_String_any_k w.heap.size w.heap.size (saveH s t k j) wr hbu.out hsz)
          clear hbu
          go_wp2_with fail
          refine HS.out.mono ?_
          rintro e w9 ⟨rfl, _, hb9, _⟩
          go_wp2_with fail
          go_ret
          exact ⟨by rw [Hn.out]; rfl, hbr.trans hb9⟩
end
end Go.Proofs.YtanlmfnhlldkeaaGreatDoor
