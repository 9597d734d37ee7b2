/-
  A trail and the document's trail side by side.
  Contract: quietwingref5.Cut.
  Contract: quietwingref5.Number.
-/
import Derived.Test.YtanlmfnhlldkeaaGreatDoorRTrA
import Derived.Test.YtanlmfnhlldkeaaGreatDoorTrsA
import Derived.Test.YtanlmfnhlldkeaaGreatDoorBaseA
import Derived.Test.YtanlmfnhlldkeaaGreatDoorRowsA
import Derived.Test.YtanlmfnhlldkeaaGreatDoorRDsPA
namespace Go.Proofs.YtanlmfnhlldkeaaGreatDoor
open Go.RowKit
set_option maxRecDepth 100000
set_option linter.unusedVariables false

section
variable {ok ok' : Nat → Prop} {w w' : World} {U F : List Int} {T T' : TS} {v : Value}
theorem IntsIn.to {A : Option Addr} {l : List Int} (h : IntsIn ok w A l) (hw : ∀ g, ok g → g < w.heap.size → w'.heap[g]? = w.heap[g]?) (ho : ∀ g, g < w.heap.size → ok g → ok' g) : IntsIn ok' w' A l :=
  ⟨fun hne => by
    obtain ⟨b, off, e, hc⟩ := h.1 hne
    have hb := h.2 b off e hne
    have hlt := h.1.lt e hne
    exact ⟨b, off, e, fun j x hj => by rw [← hc j x hj]; simp only [World.cell?]; rw [hw b hb hlt]⟩, fun b off e hne => ho b (h.1.lt e hne) (h.2 b off e hne)⟩
theorem RT.to (h : RT ok w v U F T) (hw : ∀ g, ok g → g < w.heap.size → w'.heap[g]? = w.heap[g]?) (ho : ∀ g, g < w.heap.size → ok g → ok' g) : RT ok' w' v U F T := by
  obtain ⟨a1, a2, a3, a4, a5, c1, c2, c3, c4, c5, e, i1, i2, i3, i4, i5⟩ := h.is
  exact ⟨a1, a2, a3, a4, a5, c1, c2, c3, c4, c5, e, i1.to hw ho, i2.to hw ho, i3.to hw ho, i4.to hw ho, i5.to hw ho⟩
theorem put8_block {g k : Nat} (hk : k ≠ g) (x0 x1 x2 x3 x4 x5 x6 x7 : Value) : ((((((((w.setCell ⟨g, 0, none⟩ x0).setCell ⟨g, 1, none⟩ x1).setCell ⟨g, 2, none⟩ x2).setCell ⟨g, 3, none⟩ x3).setCell ⟨g, 4, none⟩ x4).setCell ⟨g, 5, none⟩ x5).setCell ⟨g, 6, none⟩ x6).setCell ⟨g, 7, none⟩ x7).heap[k]? = w.heap[k]? := by
  rw [Below.heap_setCell _ _ _ _ hk, Below.heap_setCell _ _ _ _ hk, Below.heap_setCell _ _ _ _ hk, Below.heap_setCell _ _ _ _ hk, Below.heap_setCell _ _ _ _ hk, Below.heap_setCell _ _ _ _ hk, Below.heap_setCell _ _ _ _ hk, Below.heap_setCell _ _ _ _ hk]
end
/-- A trail at b, and the document's in the box xb: they hold the same. -/
structure Play (w0 w : World) (xb b p : Nat) (v : Value) (A : LA) (own : Nat → Prop) (U F : List Int) (T : TS) (vs : Array Value) : Prop where
  tr : TrailAt w0.heap.size own w b p v A U F T
  box : BoxN w xb 101 vs
  nx : ¬ own xb
  rt : RT (fun g => ¬ own g ∧ g ≠ xb) w (.agg vs) U F T
  lowx : w0.heap.size ≤ xb
  bw : Below w0.heap.size w0 w
section
variable {w0 w w' : World} {xb b p : Nat} {v : Value} {A : LA} {own : Nat → Prop} {U F : List Int} {T T' : TS} {vs : Array Value}
theorem Play.below (h : Play w0 w xb b p v A own U F T vs) (hb : Below w.heap.size w w') : Play w0 w' xb b p v A own U F T vs :=
  ⟨h.tr.below hb, h.box.all hb, h.nx, h.rt.below hb, h.lowx, h.bw.trans (hb.mono h.bw.size)⟩
end
end Go.Proofs.YtanlmfnhlldkeaaGreatDoor

namespace Go.Proofs.YtanlmfnhlldkeaaGreatDoor
open Go.RowKit
set_option maxRecDepth 100000
set_option linter.unusedVariables false

theorem cut_free {c : UInt8} : ∀ {l : List UInt8}, c ∉ l → cutL c l = [l]
  | [], _ => rfl
  | x :: l, h => by
    have h1 : x ≠ c := fun e => h (by rw [e]; exact List.mem_cons_self ..)
    have ih := cut_free (l := l) (fun hm => h (List.mem_cons_of_mem _ hm))
    rw [cutL_more h1 ih]
theorem cut_at {c : UInt8} : ∀ {l : List UInt8} {d : Nat}, c ∉ l.take d → l[d]? = some c → cutL c l = l.take d :: cutL c (l.drop (d + 1))
  | [], d, _, h => by simp at h
  | x :: l, 0, _, h => by
    injection h with h
    subst h
    rw [cutL_hit]
    rfl
  | x :: l, d + 1, hf, h => by
    rw [List.take_succ_cons] at hf
    have h1 : x ≠ c := fun e => hf (by rw [e]; exact List.mem_cons_self ..)
    have ih := cut_at (l := l) (d := d) (fun hm => hf (List.mem_cons_of_mem _ hm)) (by simpa using h)
    rw [cutL_more h1 ih]
    rfl
/-- A slice of strings of one's own. -/
def OwnS (w : World) (base : Nat) (v : Value) (xs : List ByteArray) : Prop := w.ownsRow base 9 1 v xs.length (xs.map .string)
theorem eStrs : EInfo Tryz.prog 59 9 1 16 := EInfo.of (z := .string .empty) Tryz.underlying59 (by kernel_rfl) rfl (by decide)
theorem OwnS.next {w w' : World} {base : Nat} {v : Value} {xs : List ByteArray} (h : OwnS w base v xs) (hb : Below w.heap.size w w') : OwnS w' base v xs := ownsRow_below h hb (Nat.le_refl _)
theorem OwnS.form {w : World} {base : Nat} {v : Value} {xs : List ByteArray} (h : OwnS w base v xs) : ∃ A c, v = .slice A xs.length c ∧ CellsAt w A (xs.map .string) := by
  have h' : w.ownsRow base 9 1 v xs.length (xs.map .string) := h
  obtain ⟨A, c, rfl⟩ := ownsRow_form h'
  exact ⟨A, c, rfl, CellsAt.own h'⟩
theorem wpList_push_str {w : World} {ops : Array Oper} {rest : List Oper} {o : Oper} {a : Act} {Q : Exit → Act → World → Prop} (hgd : o.guard = none) (s x : Operand)
    (ho : o.op = .call { callee := .builtin .append, args := #[s, x], argTypes := #[59, 59] })
    {base : Nat} {v : Value} {xs : List ByteArray} (hs : a.eval s = v) (hown : OwnS w base v xs) (g : Nat) (k : ByteArray) (hx : a.eval x = .slice (some ⟨g, 0, none⟩) 1 1) (hc : w.cell? ⟨g, 0, none⟩ = some (.string k))
    (hn : xs.length < 2 ^ 40) (hbase : base ≤ w.heap.size)
    (h : ∀ v' w', OwnS w' base v' (xs ++ [k]) → (∀ w0, Below base w0 w → Below base w0 w') → wpList Tryz.prog ops Q rest (a.put o.dst v') w') : wpList Tryz.prog ops Q (o :: rest) a w := by
  have hown' : w.ownsRow base 9 1 v xs.length (xs.map .string) := hown
  refine wpList_append_cells hgd s x ho eStrs hs hown' (some ⟨g, 0, none⟩) 1 1 [.string k] hx (fun _ => ⟨g, 0, rfl, fun j u hj => ?_⟩) rfl (fun u hu => ?_) (by omega) (by omega) hbase (fun v' w' hp => ?_)
  · match j, hj with
    | 0, hj => simp at hj; subst hj; simpa using hc
    | j + 1, hj => simp at hj
  · simp at hu; subst hu; rfl
  · refine h v' w' ?_ fun w0 hb => hp.below hown' hb hbase
    have := hp.own
    unfold OwnS
    simpa using this
set_option maxHeartbeats 4000000 in
theorem RCut_any (c : UInt8) (s : ByteArray) (hs : s.size ≤ 2000000) (w : World) :
    Calls Tryz.prog 26 #[.string s, .int .u8 (c.toNat : Int)] w fun e w' => (∃ v ls, e = .returned v ∧ OwnS w' w.heap.size v ls ∧ ls.map (·.data.toList) = cutL c s.data.toList) ∧ Below w.heap.size w w' := by
  have hsz : s.data.toList.length = s.size := Array.length_toList ..
  have Hget := Lib.hid (fun k (hk : k < s.size) => show s.data.toList[k]? = some (s[k]'hk) by rw [Array.getElem?_toList, Array.getElem?_eq_getElem hk]; rfl)
  have Hext := Lib.hid (fun f k => show (s.extract f k).data.toList = (s.data.toList.drop f).take (k - f) by rw [Lib.extract_data])
  obtain ⟨l, hl⟩ : ∃ l, s.data.toList = l := ⟨_, rfl⟩
  simp only [hl] at Hget Hext hsz
  rw [hl]
  clear hl
  replace hsz := Lib.hid hsz
  go_enter Tryz.func26, Tryz.ntmps26
  go_wp2_with fail
  go_loopw [5, 6, 7] (fun v fr i wr => ∃ (k f : Nat) (ls : List ByteArray), i = .int .i64 k ∧ fr = .int .i64 f ∧ OwnS wr w.heap.size v ls ∧ Below w.heap.size w wr ∧ ls.length ≤ k ∧ k ≤ s.size + 1 ∧ f ≤ k ∧ Hid ((k ≤ s.size ∧ cutL c l = ls.map (·.data.toList) ++ cutL c (l.drop f) ∧ c ∉ (l.drop f).take (k - f)) ∨ (k = s.size + 1 ∧ ls.map (·.data.toList) = cutL c l))) (fun _ _ i _ => s.size + 1 - (intOf i).toNat)
  case atStart => exact ⟨0, 0, [], rfl, rfl, World.ownsRow_nil w _ _ 1, Below.refl _ _, Nat.le_refl _, by omega, Nat.le_refl _, Lib.hid (.inl ⟨Nat.zero_le _, by simp, by simp⟩)⟩
  case round =>
    obtain ⟨k, f, ls, rfl, rfl, hown, hbr, hlen, hk, hf, hinv⟩ := hrel
    obtain ⟨A, cp, rfl, hcells⟩ := hown.form
    by_cases hks : k ≤ s.size
    · have Hi := Lib.hid (show cutL c l = ls.map (·.data.toList) ++ cutL c (l.drop f) ∧ c ∉ (l.drop f).take (k - f) by
        rcases hinv.out with h | ⟨h, _⟩
        · exact h.2
        · omega)
      clear hinv
      have dk : decide ((k : Int) ≤ (s.size : Int)) = true := by simp; omega
      have n0 : (0 : Int) ≤ (f : Int) := by omega
      have n1 : (f : Int) ≤ (k : Int) := by omega
      have n2 : (k : Int) ≤ (s.size : Int) := by omega
      have hs47 : wr.heap.size < wr.heap.size + 1 := by omega
      by_cases hke : k = s.size
      · subst hke
        have de : ((s.size : Int) == (s.size : Int)) = true := by simp
        have hdone := Lib.hid (show (ls ++ [s.extract f s.size]).map (·.data.toList) = cutL c l by
          rw [Hi.out.1, List.map_append]
          congr 1
          have h2 := Hi.out.2
          rw [List.take_of_length_le (by rw [List.length_drop]; have := hsz.out; omega)] at h2
          rw [cut_free h2, List.map_cons, List.map_nil, Hext.out, List.take_of_length_le (by rw [List.length_drop]; have := hsz.out; omega)])
        go_wp2_with (at_builtin; refine wpList_push_str rfl _ _ rfl rfl (hown.next ((Below.refl _ _).alloc (Nat.le_refl _) _)) _ (s.extract f s.size) rfl (cell_of_row _ _ 0 _ _ _ (heap_alloc_new _ _)) (by omega) (by have := hbr.size; simp; omega) ?_; intro v2 w1 hown2 hbl)
        obtain ⟨A2, cp2, rfl, -⟩ := hown2.form
        have hb1 := hbl _ (hbr.alloc hbr.size _)
        go_wp2_with fail
        refine ⟨⟨s.size + 1, s.size + 1, ls ++ [s.extract f s.size], ?ya, ?yb, ?yc, hb1, ?yd, Nat.le_refl _, Nat.le_refl _, Lib.hid (.inr ⟨rfl, hdone.out⟩)⟩, ?ye⟩
        case ya => go_num
        case yb => go_num
        case yc => first | exact hown2 | simpa using hown2
        case yd => rw [List.length_append, List.length_singleton]; omega
        case ye => simp [intOf]; try omega
      · have hlt : k < s.size := by omega
        have de : ((k : Int) == (s.size : Int)) = false := by simp; omega
        obtain ⟨x, hx⟩ : ∃ x : Nat, (s[k]'hlt).toNat = x := ⟨_, rfl⟩
        have hgk := Hget.out k hlt
        have Hdk := Lib.hid (show (l.drop f)[k - f]? = some (s[k]'hlt) by rw [List.getElem?_drop, show f + (k - f) = k by omega, hgk])
        by_cases hxc : x = c.toNat
        · have dc : ((x : Int) == (c.toNat : Int)) = true := by simp; omega
          have hsc : s[k]'hlt = c := UInt8.toNat_inj.1 (by rw [hx, hxc])
          have hdone := Lib.hid (show cutL c l = (ls ++ [s.extract f k]).map (·.data.toList) ++ cutL c (l.drop (k + 1)) by
            rw [Hi.out.1, List.map_append, List.append_assoc]
            congr 1
            have h3 := Hdk.out
            rw [hsc] at h3
            rw [cut_at Hi.out.2 h3, List.map_cons, List.map_nil, Hext.out, List.drop_drop, show f + (k - f + 1) = k + 1 by omega]
            rfl)
          clear hgk Hdk hsc
          go_wp2_with (at_builtin; refine wpList_push_str rfl _ _ rfl rfl (hown.next ((Below.refl _ _).alloc (Nat.le_refl _) _)) _ (s.extract f k) rfl (cell_of_row _ _ 0 _ _ _ (heap_alloc_new _ _)) (by omega) (by have := hbr.size; simp; omega) ?_; intro v2 w1 hown2 hbl)
          obtain ⟨A2, cp2, rfl, -⟩ := hown2.form
          have hb1 := hbl _ (hbr.alloc hbr.size _)
          go_wp2_with fail
          refine ⟨⟨k + 1, k + 1, ls ++ [s.extract f k], ?ya, ?yb, ?yc, hb1, ?yd, by omega, Nat.le_refl _, Lib.hid (.inl ⟨by omega, hdone.out, by simp⟩)⟩, ?ye⟩
          case ya => go_num
          case yb => go_num
          case yc => first | exact hown2 | simpa using hown2
          case yd => rw [List.length_append, List.length_singleton]; omega
          case ye => simp [intOf]; try omega
        · have dc : ((x : Int) == (c.toNat : Int)) = false := by simp; omega
          have hnext := Lib.hid (show c ∉ (l.drop f).take (k + 1 - f) by
            rw [show k + 1 - f = (k - f) + 1 by omega, List.take_add_one, Hdk.out]
            intro hm
            rcases List.mem_append.1 hm with h | h
            · exact Hi.out.2 h
            · have h4 := List.mem_singleton.1 h
              exact hxc (by rw [← hx, ← h4]))
          clear hgk Hdk
          go_wp2_with fail
          refine ⟨⟨k + 1, f, ls, ?ya, rfl, hown, hbr, ?yd, by omega, by omega, Lib.hid (.inl ⟨by omega, Hi.out.1, hnext.out⟩)⟩, ?ye⟩
          case ya => go_num
          case yd => omega
          case ye => simp [intOf]; try omega
    · obtain rfl : k = s.size + 1 := by omega
      have dk : decide (((s.size + 1 : Nat) : Int) ≤ (s.size : Int)) = false := decide_eq_false (by omega)
      have hfin := Lib.hid (show ls.map (·.data.toList) = cutL c l by
        rcases hinv.out with h | ⟨_, h⟩
        · omega
        · exact h)
      clear hinv
      go_wp2_with fail
      go_ret
      exact ⟨⟨_, ls, rfl, hown, hfin.out⟩, hbr⟩
end Go.Proofs.YtanlmfnhlldkeaaGreatDoor

namespace Go.Proofs.YtanlmfnhlldkeaaGreatDoor
open Go.RowKit
set_option maxRecDepth 100000
set_option linter.unusedVariables false

/-- What Number tells. -/
def NumIs (l : List UInt8) (e : Ending) : Prop := ∃ (x : Int) (b : Bool), e = .returned (.tuple #[.int .i64 x, .bool b]) ∧ (∀ n, numV l = some n → b = true ∧ x = (n : Int)) ∧ (numV l = none → b = false)
theorem NumIs.no {l : List UInt8} {x : Int} (h : numV l = none) : NumIs l (.returned (.tuple #[.int .i64 x, .bool false])) := ⟨x, false, rfl, fun n hn => (by rw [h] at hn; cases hn), fun _ => rfl⟩
theorem valD_take {l : List UInt8} {k : Nat} (h : k < l.length) : valD (l.take (k + 1)) = valD (l.take k) * 10 + ((l.getD k 0).toNat - 48) := by
  rw [List.take_add_one, List.getElem?_eq_getElem h, Option.toList_some, valD_snoc, List.getD_eq_getElem?_getD, List.getElem?_eq_getElem h]
  rfl
theorem wrap_step {v x : Nat} (hv : v < 1000000000000000000) (hx1 : 48 ≤ x) (hx2 : x ≤ 57) : ∃ y1 y2 : Int, IntKind.i64.wrap ((v : Int) * 10) = y1 ∧ IntKind.i64.wrap (y1 + (x : Int)) = y2 ∧ IntKind.i64.wrap (y2 - 48) = IntKind.i64.wrap ((v * 10 + (x - 48) : Nat) : Int) ∧ wrap64 ((v : Int) * 10) = y1 ∧ wrap64 (y1 + (x : Int)) = y2 ∧ wrap64 (y2 - 48) = IntKind.i64.wrap ((v * 10 + (x - 48) : Nat) : Int) := by
  refine ⟨_, _, rfl, rfl, ?_, ?_, ?_, ?_⟩
  · rw [IntKind.wrap_i64, IntKind.wrap_i64, IntKind.wrap_i64, IntKind.wrap_i64]; omega
  · rw [IntKind.wrap_i64]; unfold wrap64; omega
  · rw [IntKind.wrap_i64, IntKind.wrap_i64]; unfold wrap64; omega
  · rw [IntKind.wrap_i64, IntKind.wrap_i64, IntKind.wrap_i64]; unfold wrap64; omega
set_option maxHeartbeats 4000000 in
theorem RNumber_any (s : ByteArray) (w : World) :
    Calls Tryz.prog 27 #[.string s] w fun e w' => NumIs s.data.toList e ∧ w = w' := by
  have hsz : s.data.toList.length = s.size := Array.length_toList ..
  have Hget := Lib.hid (fun k (hk : k < s.size) => show s.data.toList.getD k 0 = s[k]'hk by rw [List.getD_eq_getElem?_getD, Array.getElem?_toList, Array.getElem?_eq_getElem hk]; rfl)
  have Hl := Lib.hid (show s.data.toList = s.data.toList from rfl)
  obtain ⟨l, hl⟩ : ∃ l, s.data.toList = l := ⟨_, rfl⟩
  have HL := Lib.hid hl
  simp only [hl] at Hget hsz
  rw [hl]
  clear hl Hl
  by_cases h0 : s.size = 0
  · have hn : numV l = none := numV_iff.2 fun h => h.1 (List.length_eq_zero_iff.1 (by omega))
    have d0 : ((s.size : Int) == 0) = true := beq_iff_eq.2 (by omega)
    replace hsz := Lib.hid hsz
    clear h0
    go_enter Tryz.func27, Tryz.ntmps27
    go_wp2_with fail
    all_goals
      go_ret2
      exact ⟨NumIs.no hn, rfl⟩
  by_cases h19 : 19 < s.size
  · have hn : numV l = none := numV_iff.2 fun h => by have := h.2.1; omega
    have d0 : ((s.size : Int) == 0) = false := beq_eq_false_iff_ne.2 (by omega)
    have d1 : decide ((s.size : Int) > 19) = true := by simp; omega
    replace hsz := Lib.hid hsz
    clear h0
    go_enter Tryz.func27, Tryz.ntmps27
    go_wp2_with fail
    all_goals
      go_ret2
      exact ⟨NumIs.no hn, rfl⟩
  have d0 : ((s.size : Int) == 0) = false := beq_eq_false_iff_ne.2 (by omega)
  have d1 : decide ((s.size : Int) > 19) = false := by simp; omega
  have hne : l ≠ [] := fun e => h0 (by rw [← hsz, e]; rfl)
  replace hsz := Lib.hid hsz
  replace h0 := Lib.hid h0
  have h19' : s.size ≤ 19 := by omega
  clear h19
  go_enter Tryz.func27, Tryz.ntmps27
  go_wp2_with fail
  go_loopw [4, 5] (fun nv i wr => ∃ (k : Nat) (y : Int), k ≤ s.size ∧ i = .int .i64 k ∧ nv = .int .i64 y ∧ Hid (y = IntKind.i64.wrap ((valD (l.take k) : Nat) : Int)) ∧ Hid (∀ c ∈ l.take k, isD c = true) ∧ wr = w) (fun _ i _ => s.size - (intOf i).toNat)
  case atStart => exact ⟨0, 0, Nat.zero_le _, rfl, rfl, Lib.hid (by simp [valD, IntKind.wrap_i64]), Lib.hid (by simp), rfl⟩
  case round =>
    obtain ⟨k, y, hk, rfl, rfl, hy, hd, hwr⟩ := hrel
    have hwr2 : w = wr := hwr.symm
    clear hwr
    subst hwr2
    have hlt10 := Lib.hid (valD_lt _ hd.out)
    by_cases hks : k < s.size
    · have hv : valD (l.take k) < 1000000000000000000 := by
        have h1 := hlt10.out
        have h2 : (l.take k).length ≤ 18 := by rw [List.length_take]; omega
        exact Nat.lt_of_lt_of_le h1 (Nat.pow_le_pow_right (by decide) h2)
      have Htake := Lib.hid (valD_take (l := l) (k := k) (by have := hsz.out; omega))
      have hgk := Hget.out k hks
      obtain ⟨x, hx⟩ : ∃ x : Nat, (s[k]'hks).toNat = x := ⟨_, rfl⟩
      have hgx : (l.getD k 0).toNat = x := by rw [hgk, hx]
      rw [hgx] at Htake
      have Hmem := Lib.hid (show l.take (k + 1) = l.take k ++ [l.getD k 0] by rw [List.take_add_one, List.getD_eq_getElem?_getD, List.getElem?_eq_getElem (by have := hsz.out; omega)]; rfl)
      obtain ⟨v, hvv⟩ : ∃ v, valD (l.take k) = v := ⟨_, rfl⟩
      rw [hvv] at hy hv Htake
      obtain rfl : y = (v : Int) := by rw [hy.out, IntKind.wrap_i64]; omega
      clear hvv hlt10 hgk hy
      by_cases hdig : 48 ≤ x ∧ x ≤ 57
      · obtain ⟨y1, y2, e1, e2, e3, e4, e5, e6⟩ := wrap_step hv hdig.1 hdig.2
        have hd' := Lib.hid (show ∀ c ∈ l.take (k + 1), isD c = true by
          rw [Hmem.out]
          intro c hc
          rcases List.mem_append.1 hc with h | h
          · exact hd.out c h
          · rw [List.mem_singleton.1 h]
            unfold isD
            rw [hgx]
            simp only [decide_eq_true_eq]
            exact hdig)
        have hy' := Lib.hid (show IntKind.i64.wrap ((v * 10 + (x - 48) : Nat) : Int) = IntKind.i64.wrap ((valD (l.take (k + 1)) : Nat) : Int) by rw [Htake.out])
        generalize IntKind.i64.wrap ((v * 10 + (x - 48) : Nat) : Int) = y3 at *
        have t1 : decide ((x : Int) < 48) = false := by simp; omega
        have t2 : decide ((x : Int) > 57) = false := by simp; omega
        have e0 : wrap64 (x : Int) = (x : Int) := by unfold wrap64; omega
        clear hdig Htake Hmem hgx hv
        go_wp2_with fail
        refine ⟨⟨k + 1, y3, ?ya, ?yb, ?yc, hy', hd', trivial⟩, ?yd⟩
        case ya => omega
        case yb => go_num
        case yc => rfl
        case yd => simp [intOf]; omega
      · have hn : numV l = none := numV_iff.2 fun h => by
          have h3 := h.2.2.1 (l.getD k 0) (by rw [List.getD_eq_getElem?_getD, List.getElem?_eq_getElem (by have := hsz.out; omega)]; exact List.getElem_mem _)
          unfold isD at h3
          rw [hgx] at h3
          simp only [decide_eq_true_eq] at h3
          exact hdig h3
        clear Htake Hmem hgx hv
        by_cases hx48 : x < 48
        · have t1 : decide ((x : Int) < 48) = true := by simp; omega
          clear hdig
          go_wp2_with fail
          go_ret2
          exact ⟨NumIs.no hn, rfl⟩
        · have t1 : decide ((x : Int) < 48) = false := by simp; omega
          have t2 : decide ((x : Int) > 57) = true := by simp; omega
          clear hdig hx48
          go_wp2_with fail
          go_ret2
          exact ⟨NumIs.no hn, rfl⟩
    · obtain rfl : k = s.size := by omega
      have hall : l.take s.size = l := List.take_of_length_le (by have := hsz.out; omega)
      rw [hall] at hy hd hlt10
      have hl19 : valD l < 10000000000000000000 := Nat.lt_of_lt_of_le hlt10.out (Nat.pow_le_pow_right (n := 10) (by decide) (show l.length ≤ 19 by have := hsz.out; omega))
      by_cases hbig : valD l < 9223372036854775808
      · have hy2 : y = ((valD l : Nat) : Int) := by rw [hy.out, IntKind.wrap_i64]; omega
        have Hsome := Lib.hid (show numV l = if Lib.itoa (valD l : Int) = l then some (valD l) else none by
          unfold numV
          by_cases h : Lib.itoa (valD l : Int) = l
          · rw [if_pos ⟨hbig, h⟩, if_pos h]
          · rw [if_neg (fun hh => h hh.2), if_neg h])
        have CD := Digits_any w (valD l) (by omega)
        subst hy2
        clear hy hall hd hlt10 hl19
        obtain ⟨sd, hsd⟩ : ∃ sd, (⟨(Lib.itoa ((valD l : Nat) : Int)).toArray⟩ : ByteArray) = sd := ⟨_, rfl⟩
        have Hsd := Lib.hid (show sd.data.toList = Lib.itoa ((valD l : Nat) : Int) by rw [← hsd])
        rw [hsd] at CD
        have CD := Lib.hid CD
        clear hsd
        generalize valD l = v at *
        have t3 : decide ((v : Int) ≥ 0) = true := by simp
        by_cases heq : Lib.itoa (v : Int) = l
        · rw [if_pos heq] at Hsome
          have hse : sd = s := ByteArray.ext (Array.ext' (by rw [Hsd.out, heq, HL.out]))
          subst hse
          go_wp2_with fail
          with_reducible refine CD.out.mono ?_
          rintro e w' ⟨rfl, rfl⟩
          go_wp2_with fail
          go_ret2
          exact ⟨⟨(v : Int), true, by first | rfl | simp, fun n hn => (by rw [Hsome.out] at hn; injection hn with hn; subst hn; exact ⟨rfl, rfl⟩), fun hn => (by rw [Hsome.out] at hn; cases hn)⟩, rfl⟩
        · rw [if_neg heq] at Hsome
          have hse : ¬ sd.toList = s.toList := fun e => heq (by rw [Lib.toList_data, Lib.toList_data] at e; rw [← Hsd.out, e, HL.out])
          clear heq
          go_wp2_with fail
          with_reducible refine CD.out.mono ?_
          rintro e w' ⟨rfl, rfl⟩
          go_wp2_with fail
          go_ret2
          exact ⟨⟨(v : Int), false, by first | rfl | simp [hse], fun n hn => (by rw [Hsome.out] at hn; cases hn), fun hn => rfl⟩, rfl⟩
      · have hyn : y < 0 := by rw [hy.out, IntKind.wrap_i64]; omega
        have t3 : decide (y ≥ 0) = false := decide_eq_false (by omega)
        have hn : numV l = none := numV_iff.2 fun h => hbig h.2.2.2.1
        clear hy hall hd hlt10 hl19 hbig
        go_wp2_with fail
        go_ret2
        exact ⟨NumIs.no hn, rfl⟩
end Go.Proofs.YtanlmfnhlldkeaaGreatDoor
