/-
  Contract: quietwingref5.Cut.
-/
import Derived.Test.YtanlmfnhlldkeaaGreatDoorBaseA
import Derived.Test.YtanlmfnhlldkeaaGreatDoorRowsA
namespace Go.Proofs.YtanlmfnhlldkeaaGreatDoor
open Go.RowKit
set_option maxRecDepth 100000
set_option linter.unusedVariables false

theorem cut_free {c : UInt8} : ∀ {l : List UInt8}, c ∉ l → cutL c l = [l]
  | [], _ => rfl
  | x :: l, h => by
    have h1 : x ≠ c := fun e => h (by rw [e]; exact List.mem_cons_self ..)
    have ih := cut_free (l := l) (fun hm => h (List.mem_cons_of_mem _ hm))
    rw [cutL_more h1 ih]
theorem cut_at {c : UInt8} : ∀ {l : List UInt8} {d : Nat}, c ∉ l.take d → l[d]? = some c → cutL c l = l.take d :: cutL c (l.drop (d + 1))
  | [], d, _, h => by simp at h
  | x :: l, 0, _, h => by
    injection h with h
    subst h
    rw [cutL_hit]
    rfl
  | x :: l, d + 1, hf, h => by
    rw [List.take_succ_cons] at hf
    have h1 : x ≠ c := fun e => hf (by rw [e]; exact List.mem_cons_self ..)
    have ih := cut_at (l := l) (d := d) (fun hm => hf (List.mem_cons_of_mem _ hm)) (by simpa using h)
    rw [cutL_more h1 ih]
    rfl
/-- A slice of strings of one's own. -/
def OwnS (w : World) (base : Nat) (v : Value) (xs : List ByteArray) : Prop := w.ownsRow base 9 1 v xs.length (xs.map .string)
theorem eStrs : EInfo Tryz.prog 59 9 1 16 := EInfo.of (z := .string .empty) Tryz.underlying59 (by kernel_rfl) rfl (by decide)
theorem OwnS.next {w w' : World} {base : Nat} {v : Value} {xs : List ByteArray} (h : OwnS w base v xs) (hb : Below w.heap.size w w') : OwnS w' base v xs := ownsRow_below h hb (Nat.le_refl _)
theorem OwnS.form {w : World} {base : Nat} {v : Value} {xs : List ByteArray} (h : OwnS w base v xs) : ∃ A c, v = .slice A xs.length c ∧ CellsAt w A (xs.map .string) := by
  have h' : w.ownsRow base 9 1 v xs.length (xs.map .string) := h
  obtain ⟨A, c, rfl⟩ := ownsRow_form h'
  exact ⟨A, c, rfl, CellsAt.own h'⟩
theorem wpList_push_str {w : World} {ops : Array Oper} {rest : List Oper} {o : Oper} {a : Act} {Q : Exit → Act → World → Prop} (hgd : o.guard = none) (s x : Operand)
    (ho : o.op = .call { callee := .builtin .append, args := #[s, x], argTypes := #[59, 59] })
    {base : Nat} {v : Value} {xs : List ByteArray} (hs : a.eval s = v) (hown : OwnS w base v xs) (g : Nat) (k : ByteArray) (hx : a.eval x = .slice (some ⟨g, 0, none⟩) 1 1) (hc : w.cell? ⟨g, 0, none⟩ = some (.string k))
    (hn : xs.length < 2 ^ 40) (hbase : base ≤ w.heap.size)
    (h : ∀ v' w', OwnS w' base v' (xs ++ [k]) → (∀ w0, Below base w0 w → Below base w0 w') → wpList Tryz.prog ops Q rest (a.put o.dst v') w') : wpList Tryz.prog ops Q (o :: rest) a w := by
  have hown' : w.ownsRow base 9 1 v xs.length (xs.map .string) := hown
  refine wpList_append_cells hgd s x ho eStrs hs hown' (some ⟨g, 0, none⟩) 1 1 [.string k] hx (fun _ => ⟨g, 0, rfl, fun j u hj => ?_⟩) rfl (fun u hu => ?_) (by omega) (by omega) hbase (fun v' w' hp => ?_)
  · match j, hj with
    | 0, hj => simp at hj; subst hj; simpa using hc
    | j + 1, hj => simp at hj
  · simp at hu; subst hu; rfl
  · refine h v' w' ?_ fun w0 hb => hp.below hown' hb hbase
    have := hp.own
    unfold OwnS
    simpa using this
set_option maxHeartbeats 4000000 in
theorem RCut_any (c : UInt8) (s : ByteArray) (hs : s.size ≤ 2000000) (w : World) :
    Calls Tryz.prog 26 #[.string s, .int .u8 (c.toNat : Int)] w fun e w' => (∃ v ls, e = .returned v ∧ OwnS w' w.heap.size v ls ∧ ls.map (·.data.toList) = cutL c s.data.toList) ∧ Below w.heap.size w w' := by
  have hsz : s.data.toList.length = s.size := Array.length_toList ..
  have Hget := Lib.hid (fun k (hk : k < s.size) => show s.data.toList[k]? = some (s[k]'hk) by rw [Array.getElem?_toList, Array.getElem?_eq_getElem hk]; rfl)
  have Hext := Lib.hid (fun f k => show (s.extract f k).data.toList = (s.data.toList.drop f).take (k - f) by rw [Lib.extract_data])
  obtain ⟨l, hl⟩ : ∃ l, s.data.toList = l := ⟨_, rfl⟩
  simp only [hl] at Hget Hext hsz
  rw [hl]
  clear hl
  replace hsz := Lib.hid hsz
  go_enter Tryz.func26, Tryz.ntmps26
  go_wp2_with fail
  go_loopw [5, 6, 7] (fun v fr i wr => ∃ (k f : Nat) (ls : List ByteArray), i = .int .i64 k ∧ fr = .int .i64 f ∧ OwnS wr w.heap.size v ls ∧ Below w.heap.size w wr ∧ ls.length ≤ k ∧ k ≤ s.size + 1 ∧ f ≤ k ∧ Hid ((k ≤ s.size ∧ cutL c l = ls.map (·.data.toList) ++ cutL c (l.drop f) ∧ c ∉ (l.drop f).take (k - f)) ∨ (k = s.size + 1 ∧ ls.map (·.data.toList) = cutL c l))) (fun _ _ i _ => s.size + 1 - (intOf i).toNat)
  case atStart => exact ⟨0, 0, [], rfl, rfl, World.ownsRow_nil w _ _ 1, Below.refl _ _, Nat.le_refl _, by omega, Nat.le_refl _, Lib.hid (.inl ⟨Nat.zero_le _, by simp, by simp⟩)⟩
  case round =>
    obtain ⟨k, f, ls, rfl, rfl, hown, hbr, hlen, hk, hf, hinv⟩ := hrel
    obtain ⟨A, cp, rfl, hcells⟩ := hown.form
    by_cases hks : k ≤ s.size
    · have Hi := Lib.hid (show cutL c l = ls.map (·.data.toList) ++ cutL c (l.drop f) ∧ c ∉ (l.drop f).take (k - f) by
        rcases hinv.out with h | ⟨h, _⟩
        · exact h.2
        · omega)
      clear hinv
      have dk : decide ((k : Int) ≤ (s.size : Int)) = true := by simp; omega
      have n0 : (0 : Int) ≤ (f : Int) := by omega
      have n1 : (f : Int) ≤ (k : Int) := by omega
      have n2 : (k : Int) ≤ (s.size : Int) := by omega
      have hs47 : wr.heap.size < wr.heap.size + 1 := by omega
      by_cases hke : k = s.size
      · subst hke
        have de : ((s.size : Int) == (s.size : Int)) = true := by simp
        have hdone := Lib.hid (show (ls ++ [s.extract f s.size]).map (·.data.toList) = cutL c l by
          rw [Hi.out.1, List.map_append]
          congr 1
          have h2 := Hi.out.2
          rw [List.take_of_length_le (by rw [List.length_drop]; have := hsz.out; omega)] at h2
          rw [cut_free h2, List.map_cons, List.map_nil, Hext.out, List.take_of_length_le (by rw [List.length_drop]; have := hsz.out; omega)])
        go_wp2_with (at_builtin; refine wpList_push_str rfl _ _ rfl rfl (hown.next ((Below.refl _ _).alloc (Nat.le_refl _) _)) _ (s.extract f s.size) rfl (cell_of_row _ _ 0 _ _ _ (heap_alloc_new _ _)) (by omega) (by have := hbr.size; simp; omega) ?_; intro v2 w1 hown2 hbl)
        obtain ⟨A2, cp2, rfl, -⟩ := hown2.form
        have hb1 := hbl _ (hbr.alloc hbr.size _)
        go_wp2_with fail
        refine ⟨⟨s.size + 1, s.size + 1, ls ++ [s.extract f s.size], ?ya, ?yb, ?yc, hb1, ?yd, Nat.le_refl _, Nat.le_refl _, Lib.hid (.inr ⟨rfl, hdone.out⟩)⟩, ?ye⟩
        case ya => go_num
        case yb => go_num
        case yc => first | exact hown2 | simpa using hown2
        case yd => rw [List.length_append, List.length_singleton]; omega
        case ye => simp [intOf]; try omega
      · have hlt : k < s.size := by omega
        have de : ((k : Int) == (s.size : Int)) = false := by simp; omega
        obtain ⟨x, hx⟩ : ∃ x : Nat, (s[k]'hlt).toNat = x := ⟨_, rfl⟩
        have hgk := Hget.out k hlt
        have Hdk := Lib.hid (show (l.drop f)[k - f]? = some (s[k]'hlt) by rw [List.getElem?_drop, show f + (k - f) = k by omega, hgk])
        by_cases hxc : x = c.toNat
        · have dc : ((x : Int) == (c.toNat : Int)) = true := by simp; omega
          have hsc : s[k]'hlt = c := UInt8.toNat_inj.1 (by rw [hx, hxc])
          have hdone := Lib.hid (show cutL c l = (ls ++ [s.extract f k]).map (·.data.toList) ++ cutL c (l.drop (k + 1)) by
            rw [Hi.out.1, List.map_append, List.append_assoc]
            congr 1
            have h3 := Hdk.out
            rw [hsc] at h3
            rw [cut_at Hi.out.2 h3, List.map_cons, List.map_nil, Hext.out, List.drop_drop, show f + (k - f + 1) = k + 1 by omega]
            rfl)
          clear hgk Hdk hsc
          go_wp2_with (at_builtin; refine wpList_push_str rfl _ _ rfl rfl (hown.next ((Below.refl _ _).alloc (Nat.le_refl _) _)) _ (s.extract f k) rfl (cell_of_row _ _ 0 _ _ _ (heap_alloc_new _ _)) (by omega) (by have := hbr.size; simp; omega) ?_; intro v2 w1 hown2 hbl)
          obtain ⟨A2, cp2, rfl, -⟩ := hown2.form
          have hb1 := hbl _ (hbr.alloc hbr.size _)
          go_wp2_with fail
          refine ⟨⟨k + 1, k + 1, ls ++ [s.extract f k], ?ya, ?yb, ?yc, hb1, ?yd, by omega, Nat.le_refl _, Lib.hid (.inl ⟨by omega, hdone.out, by simp⟩)⟩, ?ye⟩
          case ya => go_num
          case yb => go_num
          case yc => first | exact hown2 | simpa using hown2
          case yd => rw [List.length_append, List.length_singleton]; omega
          case ye => simp [intOf]; try omega
        · have dc : ((x : Int) == (c.toNat : Int)) = false := by simp; omega
          have hnext := Lib.hid (show c ∉ (l.drop f).take (k + 1 - f) by
            rw [show k + 1 - f = (k - f) + 1 by omega, List.take_add_one, Hdk.out]
            intro hm
            rcases List.mem_append.1 hm with h | h
            · exact Hi.out.2 h
            · have h4 := List.mem_singleton.1 h
              exact hxc (by rw [← hx, ← h4]))
          clear hgk Hdk
          go_wp2_with fail
          refine ⟨⟨k + 1, f, ls, ?ya, rfl, hown, hbr, ?yd, by omega, by omega, Lib.hid (.inl ⟨by omega, Hi.out.1, hnext.out⟩)⟩, ?ye⟩
          case ya => go_num
          case yd => omega
          case ye => simp [intOf]; try omega
    · obtain rfl : k = s.size + 1 := by omega
      have dk : decide (((s.size + 1 : Nat) : Int) ≤ (s.size : Int)) = false := decide_eq_false (by omega)
      have hfin := Lib.hid (show ls.map (·.data.toList) = cutL c l by
        rcases hinv.out with h | ⟨_, h⟩
        · omega
        · exact h)
      clear hinv
      go_wp2_with fail
      go_ret
      exact ⟨⟨_, ls, rfl, hown, hfin.out⟩, hbr⟩
end Go.Proofs.YtanlmfnhlldkeaaGreatDoor
