/-
  Contract: (*trail.Trail).line.
-/
import Derived.Test.YtanlmfnhlldkeaaGreatDoorLinA
namespace Go.Proofs.YtanlmfnhlldkeaaGreatDoor
open Go.RowKit
set_option maxRecDepth 100000
set_option linter.unusedVariables false

theorem AskPost.same {lo : Nat} {w w' : World} {b m : Nat} {own : Nat → Prop} {v : Value} {A : LA} {U F : List Int} {T : TS} (h : TrailAt lo own w b m v A U F T) (hb : Below w.heap.size w w') (c : Nat) : AskPost lo own w b m A U F T c (.returned (errVal c)) w' :=
  ⟨rfl, own, v, h.below hb, fun g hg => .inl hg, QKeeps.of_below hb⟩
theorem AskPost.next {lo : Nat} {w w7 w8 w9 : World} {b m : Nat} {own own' : Nat → Prop} {v' : Value} {A : LA} {U F : List Int} {T' : TS} (hb : Below w.heap.size w w7) (hT : TrailAt lo own' w8 b m v' A U F T') (ho : ∀ g, own' g → own g ∨ w7.heap.size ≤ g) (hq : QKeeps own w7 w8) (h9 : Below w8.heap.size w8 w9) (c : Nat) : AskPost lo own w b m A U F T' c (.returned (errVal c)) w9 :=
  ⟨rfl, own', v', hT.below h9, fun g hg => (ho g hg).imp id (fun h => Nat.le_trans hb.size h), ((QKeeps.of_below (S := own) hb).trans hq fun g hg => .inl hg).trans (QKeeps.of_below (S := own) h9) fun g hg => .inl hg⟩
/-- Six numbers in a row. -/
def arr6 (a : Nat → Nat) : Array Value := #[.int .i64 (a 0), .int .i64 (a 1), .int .i64 (a 2), .int .i64 (a 3), .int .i64 (a 4), .int .i64 (a 5)]
theorem BoxN.set6 {w : World} {b : Nat} {t : TypeId} {a : Nat → Nat} (h : BoxN w b t (arr6 a)) {k : Nat} (hk : k < 6) (n : Nat) : BoxN (w.setCell ⟨b, k, none⟩ (.int .i64 n)) b t (arr6 fun j => if j = k then n else a j) := by
  have h2 := h.set k (.int .i64 n)
  rcases (by omega : k = 0 ∨ k = 1 ∨ k = 2 ∨ k = 3 ∨ k = 4 ∨ k = 5) with rfl | rfl | rfl | rfl | rfl | rfl <;> exact h2
theorem arr6_get (a : Nat → Nat) {k : Nat} (hk : k < 6) : (arr6 a)[k]? = some (.int .i64 (a k)) := by
  rcases (by omega : k = 0 ∨ k = 1 ∨ k = 2 ∨ k = 3 ∨ k = 4 ∨ k = 5) with rfl | rfl | rfl | rfl | rfl | rfl <;> rfl
theorem numsV_all : ∀ {ws : List (List UInt8)} {a : Nat → Nat}, (∀ x, x < ws.length → numV (ws.getD x []) = some (a x) ∧ a x ≤ 999999) → numsV ws = some ((List.range ws.length).map a)
  | [], a, _ => rfl
  | x :: r, a, h => by
    have h0 := h 0 (Nat.zero_lt_succ _)
    have hr := numsV_all (ws := r) (a := fun i => a (i + 1)) fun i hi => h (i + 1) (Nat.succ_lt_succ hi)
    rw [List.getD_cons_zero] at h0
    rw [numsV, h0.1]
    dsimp only
    rw [if_neg (by omega), hr, List.length_cons, List.range_succ_eq_map, List.map_cons, List.map_map]
    rfl
theorem numsV_bad : ∀ {ws : List (List UInt8)} {x : Nat}, x < ws.length → (∀ n, numV (ws.getD x []) = some n → 999999 < n) → numsV ws = none
  | [], x, hx, _ => absurd hx (Nat.not_lt_zero _)
  | y :: r, 0, hx, h => by
    rw [List.getD_cons_zero] at h
    rw [numsV]
    cases hn : numV y with
    | none => rfl
    | some n => dsimp only; rw [if_pos (h n hn)]
  | y :: r, x + 1, hx, h => by
    rw [List.getD_cons_succ] at h
    have hr := numsV_bad (ws := r) (x := x) (by simpa using hx) h
    rw [numsV]
    cases hn : numV y with
    | none => rfl
    | some n =>
      dsimp only
      split
      · rfl
      · rw [hr]; rfl
theorem cutL_le (d : UInt8) : ∀ (l x : List UInt8), x ∈ cutL d l → x.length ≤ l.length
  | [], x, h => by rw [cutL, List.mem_singleton] at h; subst h; exact Nat.le_refl _
  | c :: l, x, h => by
    have ih := cutL_le d l
    by_cases hc : c = d
    · subst hc
      rw [cutL_hit] at h
      rcases List.mem_cons.1 h with rfl | h
      · exact Nat.zero_le _
      · exact Nat.le_trans (ih x h) (Nat.le_succ _)
    · cases e : cutL d l with
      | nil => exact absurd e (cutL_ne d l)
      | cons y r =>
        rw [cutL_more hc e] at h
        rw [e] at ih
        rcases List.mem_cons.1 h with rfl | h
        · have := ih y (List.mem_cons_self ..)
          simpa using this
        · exact Nat.le_trans (ih x (List.mem_cons_of_mem _ h)) (Nat.le_succ _)
theorem cutL_sum (d : UInt8) : ∀ l : List UInt8, l.length + 1 = ((cutL d l).map (fun x => x.length + 1)).sum
  | [] => rfl
  | c :: l => by
    have ih := cutL_sum d l
    by_cases hc : c = d
    · subst hc
      rw [cutL_hit, List.map_cons, List.sum_cons, ← ih, List.length_cons, List.length_nil]; omega
    · cases e : cutL d l with
      | nil => exact absurd e (cutL_ne d l)
      | cons y r =>
        rw [cutL_more hc e]
        rw [e] at ih
        rw [List.map_cons, List.sum_cons] at ih ⊢
        rw [List.length_cons, List.length_cons]
        omega
theorem sum_le20 : ∀ l : List (List UInt8), (∀ x ∈ l, x.length ≤ 19) → (l.map (fun x => x.length + 1)).sum ≤ l.length * 20
  | [], _ => Nat.le_refl _
  | x :: l, h => by
    have h1 := h x (List.mem_cons_self ..)
    have h2 := sum_le20 l fun y hy => h y (List.mem_cons_of_mem _ hy)
    rw [List.map_cons, List.sum_cons, List.length_cons]
    omega
theorem tLine_bad {U F : List Int} {T : TS} {l : List UInt8} (h : numsV (cutL 32 l) = none) : tLine U F T l = (T, 2) := by
  unfold tLine
  dsimp only
  split
  · rfl
  · rw [h]
section
variable {lo : Nat} {W0 w : World} {b m : Nat} {own : Nat → Prop} {v : Value} {A : LA} {U F : List Int} {T : TS}
set_option maxHeartbeats 4000000 in
theorem TLine_short (h : TrailAt lo own w b m v A U F T) (s : ByteArray) (hs : s.size < 4294967281) (hl : (cutB 32 s).length ≠ 6) :
    Calls Tryz.prog 145 #[.pointer (some ⟨b, 0, none⟩), .string s] w (AskPost lo own w b m A U F (tLine U F T s.data.toList).1 (tLine U F T s.data.toList).2) := by
  have e : tLine U F T s.data.toList = (T, 2) := by
    unfold tLine
    dsimp only
    rw [if_pos (by rw [← cutB_map, List.length_map]; exact hl)]
  rw [e]
  have hf := Lib.hid h
  have CS := Lib.hid (Split_one 32 s hs w)
  have hle := cutB_length 32 s
  have hle2 := Lib.countB_le ⟨#[32]⟩ (Nat.le_refl 1) s.size s (Nat.le_refl _)
  have hbw : Below w.heap.size w (w.alloc (.cells ((cutB 32 s).map Value.string).toArray 9)) := (Below.refl _ _).alloc (Nat.le_refl _) _
  generalize w.alloc (.cells ((cutB 32 s).map Value.string).toArray 9) = w1 at *
  generalize (cutB 32 s).length = q at *
  have d6 : ((q : Int) != 6) = true := by simp; omega
  clear h hle hle2 e
  go_enter Tryz.func145, Tryz.ntmps145
  go_wp2_with (go_at_call 50; with_reducible refine CS.out.mono ?_; rintro e w' ⟨rfl, rfl⟩)
  go_ret
  exact AskPost.same hf.out hbw 2
end
set_option maxHeartbeats 16000000 in
theorem TLine_six {W0 w : World} {b m : Nat} {own : Nat → Prop} {v : Value} {A : LA} {U F : List Int} {T : TS} (hG : Glob W0) (hbW : Below W0.heap.size W0 w) (h : TrailAt W0.heap.size own w b m v A U F T) (hI : TInv U F T) (hU : ∀ i, i < T.S.Re.length → labOk (gI U (i * 2)) (gI U (i * 2 + 1))) (hF : ∀ i, i < T.S.Ho.length → labOk (gI F (i * 2)) (gI F (i * 2 + 1)))
    (s : ByteArray) (hs : s.size < 4294967281) (hl : (cutB 32 s).length = 6) :
    Calls Tryz.prog 145 #[.pointer (some ⟨b, 0, none⟩), .string s] w (AskPost W0.heap.size own w b m A U F (tLine U F T s.data.toList).1 (tLine U F T s.data.toList).2) := by
  obtain ⟨ws, hws⟩ : ∃ ws, cutB 32 s = ws := ⟨_, rfl⟩
  have CS := Split_one 32 s hs w
  rw [hws] at hl CS
  rw [hl] at CS
  replace CS := Lib.hid CS
  have hcut : cutL 32 s.data.toList = ws.map (·.data.toList) := by rw [← hws, cutB_map]
  have Hcut := Lib.hid hcut
  have Hws := Lib.hid hws
  have Hl := Lib.hid hl
  have hbw1 : Below w.heap.size w (w.alloc (.cells (ws.map Value.string).toArray 9)) := (Below.refl _ _).alloc (Nat.le_refl _) _
  have hg1 : BoxN (w.alloc (.cells (ws.map Value.string).toArray 9)) w.heap.size 9 (ws.map Value.string).toArray := BoxN.new w _ _
  generalize w.alloc (.cells (ws.map Value.string).toArray 9) = w1 at *
  clear hws hcut hl
  go_enter Tryz.func145, Tryz.ntmps145
  go_wp2_with (go_at_call 50; with_reducible refine CS.out.mono ?_; rintro e wS ⟨rfl, rfl⟩)
  obtain ⟨X, hX0⟩ : ∃ X, wS.heap.size = X := ⟨_, rfl⟩
  have hx2 : BoxN (wS.alloc (.cells #[.int .i64 0, .int .i64 0, .int .i64 0, .int .i64 0, .int .i64 0, .int .i64 0] 244)) X 244 (arr6 fun _ => 0) := BoxN.new' _ _ _ _ hX0.symm
  have hg2 := hg1.alloc (.cells #[.int .i64 0, .int .i64 0, .int .i64 0, .int .i64 0, .int .i64 0, .int .i64 0] 244)
  have hbw2 := hbw1.alloc hbw1.size (.cells #[.int .i64 0, .int .i64 0, .int .i64 0, .int .i64 0, .int .i64 0, .int .i64 0] 244)
  have hGX : w.heap.size < X := by have := hg1.lt; omega
  rw [hX0]
  generalize wS.alloc (.cells #[.int .i64 0, .int .i64 0, .int .i64 0, .int .i64 0, .int .i64 0, .int .i64 0] 244) = w2 at *
  have Hx2 := Lib.hid hx2
  have Hg2 := Lib.hid hg2
  have Hb2 := Lib.hid hbw2
  clear hx2 hg2 hbw2 hg1 hbw1 CS
  go_loopw [20] (fun i wr => ∃ (k : Nat) (a : Nat → Nat), k ≤ 6 ∧ i = .int .i64 k ∧ Hid (∀ x, x < k → numV ((ws.map (·.data.toList)).getD x []) = some (a x) ∧ a x ≤ 999999) ∧ Hid (BoxN wr X 244 (arr6 a)) ∧ Hid (BoxN wr w.heap.size 9 (ws.map Value.string).toArray) ∧ Hid (Below w.heap.size w wr)) (fun i _ => 6 - (intOf i).toNat)
  case atStart => exact ⟨0, fun _ => 0, Nat.zero_le _, rfl, Lib.hid (fun x hx => by omega), Hx2, Hg2, Hb2⟩
  case round =>
    obtain ⟨k, a, hk, rfl, hall, hx, hg, hb⟩ := hrel
    by_cases hlt : k < 6
    · obtain ⟨x, hxk⟩ : ∃ x, ws[k]? = some x := ⟨_, List.getElem?_eq_getElem (by rw [Hl.out]; exact hlt)⟩
      have cx : wr.cell? ⟨w.heap.size, k, none⟩ = some (.string x) := hg.out.cell (by simp [hxk])
      have hmem : x.data.toList ∈ cutL 32 s.data.toList := by rw [Hcut.out]; exact List.mem_map.2 ⟨x, List.mem_of_getElem? hxk, rfl⟩
      have hxs : x.size ≤ 281474976710656 := by
        have h1 := cutL_le 32 _ _ hmem
        rw [← ba_size, ← ba_size] at h1
        omega
      have hV : Below W0.heap.size W0 wr := hbW.trans (hb.out.mono hbW.size)
      have Hnum := Lib.hid (show (ws.map (·.data.toList)).getD k [] = x.data.toList by simp [List.getD, hxk])
      have Hlen := Lib.hid (show k < (ws.map (·.data.toList)).length by rw [List.length_map, Hl.out]; exact hlt)
      have CW := Lib.hid (Word_any hG x hxs hV)
      clear hmem hxs hxk
      go_wp2_with fail
      with_reducible refine CW.out.mono ?_
      rintro e w5 ⟨hw, hb5⟩
      have Hb5 := Lib.hid (hb.out.trans (hb5.mono hb.out.size))
      have hg5 := Lib.hid (hg.out.all hb5)
      have hx5 := Lib.hid (hx.out.all hb5)
      have HI := Lib.hid (fun (n : Nat) (hn : n ≤ 9223372036854775807) => hG.itoa (hbW.trans (Hb5.out.mono hbW.size)) n hn)
      clear CW cx hb5 hb hg hx
      cases hw with
      | num n hn he =>
        subst he
        have hn63 := (numV_some hn).1
        have hit : (⟨(Lib.itoa (n : Int)).toArray⟩ : ByteArray) = x := ba_ext (by rw [ba_of]; exact (numV_some hn).2)
        have Q := HI.out n (by omega)
        rw [hit] at Q
        replace Q := Lib.hid Q
        have f0 : decide ((n : Int) < 0) = false := by simp
        by_cases hgt : n ≤ 999999
        · have f1 : decide ((n : Int) > 999999) = false := by simp; omega
          have Hall := Lib.hid (show ∀ y, y < k + 1 → numV ((ws.map (·.data.toList)).getD y []) = some ((fun j => if j = k then n else a j) y) ∧ (fun j => if j = k then n else a j) y ≤ 999999 from fun y hy => by
            rcases Nat.lt_or_ge y k with h1 | h1
            · dsimp only; rw [if_neg (by omega)]; exact hall.out y h1
            · obtain rfl : y = k := by omega
              dsimp only; rw [if_pos rfl, Hnum.out]; exact ⟨hn, hgt⟩)
          clear hit hn HI hall Hnum Hlen
          go_wp2_with fail
          with_reducible refine Q.out.mono ?_
          rintro e w6 ⟨rfl, hb6⟩
          have hx6 := hx5.out.all hb6
          have cx6 : w6.cell? ⟨X, k, none⟩ = some (.int .i64 (a k)) := hx6.cell (arr6_get a hlt)
          have fx6 := hx6.free k
          have hx7 := Lib.hid (hx6.set6 hlt n)
          have hXw : w.heap.size ≤ X := Nat.le_of_lt hGX
          have hb7 := Lib.hid ((Hb5.out.trans (hb6.mono Hb5.out.size)).setCell (p := ⟨X, k, none⟩) hXw (.int .i64 n))
          have hg7 := Lib.hid ((hg5.out.all hb6).other (a := ⟨X, k, none⟩) (by show w.heap.size ≠ X; omega) (.int .i64 n))
          clear hx6
          go_wp2_with fail
          refine ⟨⟨k + 1, fun j => if j = k then n else a j, ?ya, ?yb, Hall, hx7, hg7, hb7⟩, ?yd⟩
          case ya => omega
          case yb => go_num
          case yd => simp [intOf]; omega
        · have f1 : decide ((n : Int) > 999999) = true := by simp; omega
          have Hno := Lib.hid (show tLine U F T s.data.toList = (T, 2) from tLine_bad (by rw [Hcut.out]; exact numsV_bad Hlen.out (fun m hm => by rw [Hnum.out, hn] at hm; injection hm with hm; omega)))
          clear hit hn HI hall Hnum Hlen
          go_wp2_with (go_at_call 52; with_reducible refine Q.out.mono ?_; rintro e w6 ⟨rfl, hb6⟩)
          go_ret
          show AskPost _ _ _ _ _ _ _ _ _ _ _ _
          rw [Hno.out]
          exact AskPost.same h (Hb5.out.trans (hb6.mono Hb5.out.size)) 2
      | neg z hn hz he =>
        subst he
        have f0 : decide (z < 0) = true := by simp; omega
        have Hno := Lib.hid (show tLine U F T s.data.toList = (T, 2) from tLine_bad (by rw [Hcut.out]; exact numsV_bad Hlen.out (fun m hm => by rw [Hnum.out, hn] at hm; cases hm)))
        clear hn HI hall Hnum Hlen
        go_wp2_with fail
        go_ret
        show AskPost _ _ _ _ _ _ _ _ _ _ _ _
        rw [Hno.out]
        exact AskPost.same h Hb5.out 2
      | odd n hn h63 hx' he =>
        subst he
        have f0 : decide ((n : Int) < 0) = false := by simp
        have Hno := Lib.hid (show tLine U F T s.data.toList = (T, 2) from tLine_bad (by rw [Hcut.out]; exact numsV_bad Hlen.out (fun m hm => by rw [Hnum.out, hn] at hm; cases hm)))
        obtain ⟨y, hy⟩ : ∃ y : ByteArray, (⟨(Lib.itoa (n : Int)).toArray⟩ : ByteArray) = y := ⟨_, rfl⟩
        have hyx : ¬ y.toList = x.toList := fun e => hx' (by rw [Lib.toList_data, Lib.toList_data] at e; rw [← e, ← hy, ba_of])
        have Q := HI.out n (by omega)
        rw [hy] at Q
        replace Q := Lib.hid Q
        clear hn HI hall Hnum Hlen hx' hy
        go_wp2_with (go_at_call 52; with_reducible refine Q.out.mono ?_; rintro e w6 ⟨rfl, hb6⟩)
        go_ret
        show AskPost _ _ _ _ _ _ _ _ _ _ _ _
        rw [Hno.out]
        exact AskPost.same h (Hb5.out.trans (hb6.mono Hb5.out.size)) 2
      | bad hn z t q he =>
        subst he
        have Hno := Lib.hid (show tLine U F T s.data.toList = (T, 2) from tLine_bad (by rw [Hcut.out]; exact numsV_bad Hlen.out (fun m hm => by rw [Hnum.out, hn] at hm; cases hm)))
        clear hn HI hall Hnum Hlen
        go_wp2_with fail
        go_ret
        show AskPost _ _ _ _ _ _ _ _ _ _ _ _
        rw [Hno.out]
        exact AskPost.same h Hb5.out 2
    · obtain rfl : k = 6 := by omega
      have Hn := Lib.hid (show numsV (cutL 32 s.data.toList) = some [a 0, a 1, a 2, a 3, a 4, a 5] by
        rw [Hcut.out, numsV_all (a := a) (fun x hx => hall.out x (by rw [List.length_map, Hl.out] at hx; exact hx)), List.length_map, Hl.out]
        rfl)
      have h9 := hall.out
      clear hall Hx2 Hg2 Hb2
      obtain ⟨x5, hx5⟩ : ∃ x, ws[5]? = some x := ⟨_, List.getElem?_eq_getElem (by rw [Hl.out]; decide)⟩
      have Hd5 := Lib.hid (show (cutL 32 s.data.toList).getD 5 [] = x5.data.toList by rw [Hcut.out]; simp [List.getD, hx5])
      have hc6 : (cutL 32 s.data.toList).length = 6 := by rw [Hcut.out, List.length_map, Hl.out]
      have hall19 : ∀ y ∈ cutL 32 s.data.toList, y.length ≤ 19 := fun y hy => by
        obtain ⟨j, hj, rfl⟩ := List.getElem_of_mem hy
        have h1 := (h9 j (by omega)).1
        rw [← Hcut.out, show (cutL 32 s.data.toList).getD j [] = (cutL 32 s.data.toList)[j] by simp [List.getD, List.getElem?_eq_getElem hj]] at h1
        obtain ⟨h2, h3⟩ := numV_some h1
        rw [← h3]
        exact itoa_len19 h2
      have hsz : x5.size ≤ s.size ∧ s.size ≤ 119 := by
        have h1 := cutL_le 32 s.data.toList x5.data.toList (by rw [Hcut.out]; exact List.mem_map.2 ⟨x5, List.mem_of_getElem? hx5, rfl⟩)
        have h2 := cutL_sum 32 s.data.toList
        have h3 := sum_le20 _ hall19
        rw [← ba_size, ← ba_size] at h1
        rw [← ba_size] at h2
        omega
      obtain ⟨hz1, hz2⟩ := hsz
      obtain ⟨n, hn⟩ : ∃ n, n = s.size - x5.size := ⟨_, rfl⟩
      have hwn : IntKind.i64.wrap ((s.size : Int) - (x5.size : Int)) = (n : Int) := (IntKind.wrap_i64 _).trans (by omega)
      have n0 : (0 : Int) ≤ (n : Int) := by omega
      have n1 : (n : Int) ≤ (s.size : Int) := by omega
      have hext : (s.extract 0 (s.size - x5.size)).data.toList = s.data.toList.take n := by rw [← hn]; simp
      have Htl := Lib.hid (show tLine U F T s.data.toList = if linkV T.chain (s.data.toList.take n) ≠ a 5 then (T, 6) else if a 0 ≠ 3 ∧ a 3 ≠ 0 then (T, 3) else if T.many = 100 then (T, 4) else (if (tAsk U F T (a 0 : Nat) (a 1 : Nat) (a 2 : Nat) (a 3 : Nat)).2 = 1 then ((tAsk U F T (a 0 : Nat) (a 1 : Nat) (a 2 : Nat) (a 3 : Nat)).1, 1) else if (tAsk U F T (a 0 : Nat) (a 1 : Nat) (a 2 : Nat) (a 3 : Nat)).2 ≠ a 4 then ((tAsk U F T (a 0 : Nat) (a 1 : Nat) (a 2 : Nat) (a 3 : Nat)).1, 8) else ((tAsk U F T (a 0 : Nat) (a 1 : Nat) (a 2 : Nat) (a 3 : Nat)).1, 0)) by
        unfold tLine
        dsimp only
        rw [if_neg (by omega), Hn.out, Hd5.out, ← ba_size, ← ba_size, ← hn]
        rfl)
      have CN := Lib.hid (fun V => next_any (c := T.chain) (s := s.extract 0 (s.size - x5.size)) hI.chain (by rw [ByteArray.size_extract]; omega) V)
      rw [hext] at CN
      have hTr := Lib.hid (h.below hb.out)
      have q4 := hTr.out.cc
      have q3 := hTr.out.ck
      have g5 : wr.cell? ⟨w.heap.size, 5, none⟩ = some (.string x5) := hg.out.cell (by simp [hx5])
      have c5 : wr.cell? ⟨X, 5, none⟩ = some (.int .i64 (a 5)) := hx.out.cell rfl
      have hbr := hb.out
      have hKeep := Lib.hid (fun V (hV : Below wr.heap.size wr V) => (⟨(hV.cell (p := ⟨b, 4, none⟩) (block_lt q4)).trans q4, (hV.cell (p := ⟨w.heap.size, 5, none⟩) (block_lt g5)).trans g5, (hV.cell (p := ⟨X, 5, none⟩) (block_lt c5)).trans c5⟩ : V.cell? ⟨b, 4, none⟩ = some (.int .i64 T.chain) ∧ V.cell? ⟨w.heap.size, 5, none⟩ = some (.string x5) ∧ V.cell? ⟨X, 5, none⟩ = some (.int .i64 (a 5))))
      obtain ⟨lk, hlk⟩ : ∃ lk, linkV T.chain (s.data.toList.take n) = lk := ⟨_, rfl⟩
      rw [hlk] at CN Htl
      have hbA : Below wr.heap.size wr wr.drew := (Below.refl _ _).drew
      clear hall19 hc6 hext hx5 Hn h9 Hd5
      go_wp2_with fail
      go_region_held3 (fun V => V.cell? ⟨b, 4, none⟩ = some (.int .i64 T.chain) ∧ V.cell? ⟨w.heap.size, 5, none⟩ = some (.string x5) ∧ V.cell? ⟨X, 5, none⟩ = some (.int .i64 (a 5))) ((refine hKeep.out _ ?_; repeat (first | with_reducible assumption | refine Below.drew ?_))) ((go_at_call 122; with_reducible refine (CN.out _).mono ?_; rintro e w7 ⟨rfl, hb7⟩; have hw7 : Below wr.heap.size wr w7 := hbA.trans (hb7.mono hbA.size)))
      have hx7 := hx.out.all hw7
      have hT7 := Lib.hid (hTr.out.below hw7)
      have hbw7 := Lib.hid (hbr.trans (hw7.mono hbr.size))
      have z0 : w7.cell? ⟨X, 0, none⟩ = some (.int .i64 (a 0)) := hx7.cell rfl
      have z1 : w7.cell? ⟨X, 1, none⟩ = some (.int .i64 (a 1)) := hx7.cell rfl
      have z2 : w7.cell? ⟨X, 2, none⟩ = some (.int .i64 (a 2)) := hx7.cell rfl
      have z3 : w7.cell? ⟨X, 3, none⟩ = some (.int .i64 (a 3)) := hx7.cell rfl
      have m3 := hT7.out.ck
      replace hx7 := Lib.hid hx7
      clear hKeep CN q4 q3 g5 c5 hx hg hb hTr hwn
      by_cases hk5 : lk = a 5
      · have d5 : ((lk : Int) != (a 5 : Int)) = false := by simp; omega
        rw [if_neg (fun hn => hn hk5)] at Htl
        clear hk5
        rcases (by omega : (a 0 ≠ 3 ∧ a 3 ≠ 0) ∨ (a 0 = 3) ∨ (a 0 ≠ 3 ∧ a 3 = 0)) with ⟨e0, e3⟩ | e0 | ⟨e0, e3⟩
        · have d0 : ((a 0 : Int) != 3) = true := by simp; omega
          have d3 : ((a 3 : Int) != 0) = true := by simp; omega
          rw [if_pos ⟨e0, e3⟩] at Htl
          clear e0 e3
          go_wp2_with fail
          go_ret
          show AskPost _ _ _ _ _ _ _ _ _ _ _ _
          rw [Htl.out]
          exact AskPost.same h hbw7.out 3
        · have d0 : ((a 0 : Int) != 3) = false := by simp; omega
          rw [if_neg (fun hh => hh.1 e0)] at Htl
          clear e0
          by_cases hm : T.many = 100
          · have dm : ((T.many : Int) == 100) = true := by simp; omega
            rw [if_pos hm] at Htl
            clear hm
            go_wp2_with fail
            go_ret
            show AskPost _ _ _ _ _ _ _ _ _ _ _ _
            rw [Htl.out]
            exact AskPost.same h hbw7.out 4
          · have dm : ((T.many : Int) == 100) = false := by simp; omega
            rw [if_neg hm] at Htl
            have hbW7 : Below W0.heap.size W0 w7 := hbW.trans (hbw7.out.mono hbW.size)
            have CA := Lib.hid (TAsk_any hG hbW7 hT7.out hI hU hF (a 0 : Nat) (a 1 : Nat) (a 2 : Nat) (a 3 : Nat))
            obtain ⟨r, hr⟩ : ∃ r, tAsk U F T (a 0 : Nat) (a 1 : Nat) (a 2 : Nat) (a 3 : Nat) = r := ⟨_, rfl⟩
            rw [hr] at CA Htl
            clear hm hr
            obtain ⟨T', code⟩ := r
            go_wp2_with fail
            with_reducible refine CA.out.mono ?_
            rintro e w8 ⟨rfl, own', v', hT8, ho8, hq8⟩
            have hXo : ¬ own X := fun hh => by
              have h1 := h.lt X hh
              omega
            have hx8 := hq8.box hx7.out hXo
            have hb8 : Below W0.heap.size W0 w8 := hq8.to_below (fun g hg => h.low g hg) hbW7 hbW7.size
            have CIs := Lib.hid (Is_any code w8)
            have z4 : w8.cell? ⟨X, 4, none⟩ = some (.int .i64 (a 4)) := hx8.cell rfl
            have HT8 := Lib.hid hT8
            have Hq8 := Lib.hid hq8
            have Ho8 := Lib.hid ho8
            clear z0 z1 z2 z3 m3 CA hT8 hq8 ho8 hXo hx8
            by_cases hc1 : code = 1
            · subst hc1
              rw [show decide ((1 : Nat) = 1) = true from rfl] at CIs
              go_wp2_with (go_at_call 120; with_reducible refine CIs.out.mono ?_; rintro e w9 ⟨rfl, rfl⟩)
              go_ret
              show AskPost _ _ _ _ _ _ _ _ _ _ _ _
              rw [Htl.out, if_pos trivial]
              exact AskPost.next hbw7.out HT8.out Ho8.out Hq8.out (Below.refl _ _) 1
            · rw [show decide (code = 1) = false from decide_eq_false hc1] at CIs
              rw [if_neg hc1] at Htl
              have z4' := cell_regrown z4
              have Q1 := Lib.hid (fun (d : Nat) (os : Array Obj) => Calls.regrown_of (trTold_any code (Sort.grow (redrawn w8 d) os) (hG.err.next (hb8.trans ((below_regrown w8 d os).mono hb8.size)))))
              clear hc1
              go_wp2_with (go_at_call 120; with_reducible refine CIs.out.mono ?_; rintro e w9 ⟨rfl, rfl⟩)
              refine wp_region_quiet_below (by kernel_rfl) (by kernel_rfl) ?_
              repeat (go_big_quiet_step (with_reducible exact Q1.out _ _))
              refine wpQuiet_nil ?_
              rintro _ ⟨pq, rfl⟩
              have hbq := below_regrown w8 pq.d pq.os
              generalize Sort.grow (redrawn w8 pq.d) pq.os = wq at *
              by_cases h4 : code = a 4
              · have d4 : ((code : Int) != (a 4 : Int)) = false := by simp; omega
                rw [if_neg (fun hn => hn h4)] at Htl
                clear h4
                go_wp2_with fail
                go_ret
                show AskPost _ _ _ _ _ _ _ _ _ _ _ _
                rw [Htl.out]
                exact AskPost.next hbw7.out HT8.out Ho8.out Hq8.out hbq 0
              · have d4 : ((code : Int) != (a 4 : Int)) = true := by simp; omega
                rw [if_pos h4] at Htl
                clear h4
                go_wp2_with fail
                go_ret
                show AskPost _ _ _ _ _ _ _ _ _ _ _ _
                rw [Htl.out]
                exact AskPost.next hbw7.out HT8.out Ho8.out Hq8.out hbq 8
        · have d0 : ((a 0 : Int) != 3) = true := by simp; omega
          have d3 : ((a 3 : Int) != 0) = false := by simp; omega
          rw [if_neg (fun hh => hh.2 e3)] at Htl
          clear e0 e3
          by_cases hm : T.many = 100
          · have dm : ((T.many : Int) == 100) = true := by simp; omega
            rw [if_pos hm] at Htl
            clear hm
            go_wp2_with fail
            go_ret
            show AskPost _ _ _ _ _ _ _ _ _ _ _ _
            rw [Htl.out]
            exact AskPost.same h hbw7.out 4
          · have dm : ((T.many : Int) == 100) = false := by simp; omega
            rw [if_neg hm] at Htl
            have hbW7 : Below W0.heap.size W0 w7 := hbW.trans (hbw7.out.mono hbW.size)
            have CA := Lib.hid (TAsk_any hG hbW7 hT7.out hI hU hF (a 0 : Nat) (a 1 : Nat) (a 2 : Nat) (a 3 : Nat))
            obtain ⟨r, hr⟩ : ∃ r, tAsk U F T (a 0 : Nat) (a 1 : Nat) (a 2 : Nat) (a 3 : Nat) = r := ⟨_, rfl⟩
            rw [hr] at CA Htl
            clear hm hr
            obtain ⟨T', code⟩ := r
            go_wp2_with fail
            with_reducible refine CA.out.mono ?_
            rintro e w8 ⟨rfl, own', v', hT8, ho8, hq8⟩
            have hXo : ¬ own X := fun hh => by
              have h1 := h.lt X hh
              omega
            have hx8 := hq8.box hx7.out hXo
            have hb8 : Below W0.heap.size W0 w8 := hq8.to_below (fun g hg => h.low g hg) hbW7 hbW7.size
            have CIs := Lib.hid (Is_any code w8)
            have z4 : w8.cell? ⟨X, 4, none⟩ = some (.int .i64 (a 4)) := hx8.cell rfl
            have HT8 := Lib.hid hT8
            have Hq8 := Lib.hid hq8
            have Ho8 := Lib.hid ho8
            clear z0 z1 z2 z3 m3 CA hT8 hq8 ho8 hXo hx8
            by_cases hc1 : code = 1
            · subst hc1
              rw [show decide ((1 : Nat) = 1) = true from rfl] at CIs
              go_wp2_with (go_at_call 120; with_reducible refine CIs.out.mono ?_; rintro e w9 ⟨rfl, rfl⟩)
              go_ret
              show AskPost _ _ _ _ _ _ _ _ _ _ _ _
              rw [Htl.out, if_pos trivial]
              exact AskPost.next hbw7.out HT8.out Ho8.out Hq8.out (Below.refl _ _) 1
            · rw [show decide (code = 1) = false from decide_eq_false hc1] at CIs
              rw [if_neg hc1] at Htl
              have z4' := cell_regrown z4
              have Q1 := Lib.hid (fun (d : Nat) (os : Array Obj) => Calls.regrown_of (trTold_any code (Sort.grow (redrawn w8 d) os) (hG.err.next (hb8.trans ((below_regrown w8 d os).mono hb8.size)))))
              clear hc1
              go_wp2_with (go_at_call 120; with_reducible refine CIs.out.mono ?_; rintro e w9 ⟨rfl, rfl⟩)
              refine wp_region_quiet_below (by kernel_rfl) (by kernel_rfl) ?_
              repeat (go_big_quiet_step (with_reducible exact Q1.out _ _))
              refine wpQuiet_nil ?_
              rintro _ ⟨pq, rfl⟩
              have hbq := below_regrown w8 pq.d pq.os
              generalize Sort.grow (redrawn w8 pq.d) pq.os = wq at *
              by_cases h4 : code = a 4
              · have d4 : ((code : Int) != (a 4 : Int)) = false := by simp; omega
                rw [if_neg (fun hn => hn h4)] at Htl
                clear h4
                go_wp2_with fail
                go_ret
                show AskPost _ _ _ _ _ _ _ _ _ _ _ _
                rw [Htl.out]
                exact AskPost.next hbw7.out HT8.out Ho8.out Hq8.out hbq 0
              · have d4 : ((code : Int) != (a 4 : Int)) = true := by simp; omega
                rw [if_pos h4] at Htl
                clear h4
                go_wp2_with fail
                go_ret
                show AskPost _ _ _ _ _ _ _ _ _ _ _ _
                rw [Htl.out]
                exact AskPost.next hbw7.out HT8.out Ho8.out Hq8.out hbq 8
      · have d5 : ((lk : Int) != (a 5 : Int)) = true := by simp; omega
        rw [if_pos hk5] at Htl
        clear hk5
        go_wp2_with fail
        go_ret
        show AskPost _ _ _ _ _ _ _ _ _ _ _ _
        rw [Htl.out]
        exact AskPost.same h hbw7.out 6
/-- A line again. -/
theorem TLine_any {W0 w : World} {b m : Nat} {own : Nat → Prop} {v : Value} {A : LA} {U F : List Int} {T : TS} (hG : Glob W0) (hbW : Below W0.heap.size W0 w) (h : TrailAt W0.heap.size own w b m v A U F T) (hI : TInv U F T) (hU : ∀ i, i < T.S.Re.length → labOk (gI U (i * 2)) (gI U (i * 2 + 1))) (hF : ∀ i, i < T.S.Ho.length → labOk (gI F (i * 2)) (gI F (i * 2 + 1)))
    (s : ByteArray) (hs : s.size < 4294967281) :
    Calls Tryz.prog 145 #[.pointer (some ⟨b, 0, none⟩), .string s] w (AskPost W0.heap.size own w b m A U F (tLine U F T s.data.toList).1 (tLine U F T s.data.toList).2) := by
  by_cases hl : (cutB 32 s).length = 6
  · exact TLine_six hG hbW h hI hU hF s hs hl
  · exact TLine_short h s hs hl
end Go.Proofs.YtanlmfnhlldkeaaGreatDoor
