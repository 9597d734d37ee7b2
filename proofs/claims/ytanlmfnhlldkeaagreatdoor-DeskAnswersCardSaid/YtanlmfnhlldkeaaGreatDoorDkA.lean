/-
  Contracts: Errno.Error, desk.told, desk.numbers, desk.set.
-/
import Derived.Test.YtanlmfnhlldkeaaGreatDoorDkNA
import Derived.Test.YtanlmfnhlldkeaaGreatDoorTrG
import Derived.Test.YtanlmfnhlldkeaaGreatDoorLoopA
import Derived.Shelf.RegionOpen
namespace Go.Proofs.YtanlmfnhlldkeaaGreatDoor
open Go.RowKit Go.Shelf
attribute [local go_sem] Oper.semAt_some
attribute [local simp, local go_sem] wide_fn
set_option maxRecDepth 100000
set_option linter.unusedVariables false

set_option maxHeartbeats 1000000 in
theorem ErrName_any (k : Nat) (w : World) : Calls Tryz.prog 94 #[.int .i64 k] w fun e w' => e = .returned (.string ⟨(nameE k).toArray⟩) ∧ w = w' := by
  rcases (by omega : k = 0 ∨ k = 1 ∨ k = 2 ∨ k = 3 ∨ k = 4 ∨ k = 5 ∨ k = 6 ∨ k = 7 ∨ k = 8 ∨ 9 ≤ k) with rfl | rfl | rfl | rfl | rfl | rfl | rfl | rfl | rfl | hk
  case inr.inr.inr.inr.inr.inr.inr.inr.inr =>
    have e0 : ((k : Int) == 0) = false := by simp; omega
    have e1 : ((k : Int) == 1) = false := by simp; omega
    have e2 : ((k : Int) == 2) = false := by simp; omega
    have e3 : ((k : Int) == 3) = false := by simp; omega
    have e4 : ((k : Int) == 4) = false := by simp; omega
    have e5 : ((k : Int) == 5) = false := by simp; omega
    have e6 : ((k : Int) == 6) = false := by simp; omega
    have e7 : ((k : Int) == 7) = false := by simp; omega
    have e8 : ((k : Int) == 8) = false := by simp; omega
    have hn : nameE k = [69, 114, 114, 110, 111] := by
      obtain ⟨j, rfl⟩ : ∃ j, k = j + 9 := ⟨k - 9, by omega⟩
      rfl
    rw [hn]
    clear hk hn
    go_enter Tryz.func94, Tryz.ntmps94
    go_wp2
    go_ret
    exact ⟨rfl, rfl⟩
  all_goals
    go_enter Tryz.func94, Tryz.ntmps94
    go_wp2
    go_ret
    exact ⟨rfl, rfl⟩
theorem dkTold_nil (w : World) : Calls Tryz.prog 80 #[.nilIface] w fun e w' => e = .returned (.string ⟨#[111, 107]⟩) ∧ Below w.heap.size w w' := by
  go_enter Tryz.func80, Tryz.ntmps80
  have Hn := Lib.hid (as_nil (.iface 109 (.pointer (some ⟨w.heap.size, 0, none⟩))) (w.alloc (.cells #[.int .i64 0] 63)))
  go_wp2_with (go_at_call 53; with_reducible refine Hn.out.mono ?_; rintro e w' ⟨rfl, rfl⟩)
  go_ret
  exact ⟨rfl, (Below.refl _ _).alloc (Nat.le_refl _) _⟩
set_option maxHeartbeats 1000000 in
theorem dkTold_no (k : Nat) (w : World) (hg : ErrT w) : Calls Tryz.prog 80 #[.iface 63 (.int .i64 k)] w fun e w' => e = .returned (.string ⟨(nameE k).toArray⟩) ∧ Below w.heap.size w w' := by
  have Hh := Lib.hid (as_hit k ⟨w.heap.size, 0, none⟩ (.int .i64 0) (w.alloc (.cells #[.int .i64 0] 63)) (hg.next ((Below.refl _ w).alloc (Nat.le_refl _) _)) (by simp) (by simp))
  have HE := Lib.hid (fun V => ErrName_any k V)
  clear hg
  go_enter Tryz.func80, Tryz.ntmps80
  go_wp2_with (first | (go_at_call 53; with_reducible refine Hh.out.mono ?_; rintro e w' ⟨rfl, rfl⟩) | (go_at_call 94; with_reducible refine (HE.out _).mono ?_; rintro e w' ⟨rfl, rfl⟩))
  go_ret
  exact ⟨rfl, (((((Below.refl _ w).alloc (Nat.le_refl _) _).alloc (by simp) _).alloc (by simp; omega) _).alloc (by simp; omega) _).alloc (by simp; omega) _⟩
theorem dkTold_any (k : Nat) (w : World) (hg : ErrT w) : Calls Tryz.prog 80 #[errVal k] w fun e w' => e = .returned (.string ⟨(toldE k).toArray⟩) ∧ Below w.heap.size w w' := by
  unfold errVal toldE
  split
  · rename_i h; subst h; exact dkTold_nil w
  · exact dkTold_no k w hg
theorem numsD_some : ∀ {l : List (List UInt8)} {a : Nat → Nat}, (∀ x, x < l.length → numD (l.getD x []) = some (a x)) → numsD l = some ((List.range l.length).map a)
  | [], a, _ => rfl
  | x :: r, a, h => by
    have h0 := h 0 (Nat.zero_lt_succ _)
    have hr := numsD_some (l := r) (a := fun i => a (i + 1)) fun i hi => h (i + 1) (Nat.succ_lt_succ hi)
    rw [List.getD_cons_zero] at h0
    rw [numsD, h0]
    dsimp only
    rw [hr, List.length_cons, List.range_succ_eq_map, List.map_cons, List.map_map]
    rfl
theorem numsD_none : ∀ {l : List (List UInt8)} {x : Nat}, x < l.length → numD (l.getD x []) = none → numsD l = none
  | [], x, hx, _ => absurd hx (Nat.not_lt_zero _)
  | y :: r, 0, hx, h => by rw [List.getD_cons_zero] at h; rw [numsD, h]
  | y :: r, x + 1, hx, h => by
    rw [List.getD_cons_succ] at h
    have hr := numsD_none (l := r) (x := x) (by simpa using hx) h
    rw [numsD]
    cases numD y with
    | none => rfl
    | some n => dsimp only; rw [hr]; rfl
theorem numD_num {x : ByteArray} {n : Nat} (h : numV x.data.toList = some n) (h4 : x.size ≤ 4) : numD x.data.toList = some n := by
  unfold numD; rw [h]; dsimp only; rw [if_neg (by rw [← ba_size]; omega)]
theorem numD_long {x : ByteArray} (h4 : 4 < x.size) : numD x.data.toList = none := by
  unfold numD
  split
  · rfl
  · rw [if_pos (by rw [← ba_size]; omega)]
theorem numD_no {x : ByteArray} (h : numV x.data.toList = none) : numD x.data.toList = none := by unfold numD; rw [h]
/-- What numbers hands on. -/
def NumsPost (B : Nat) (ls : List (List UInt8)) (e : Ending) (w' : World) : Prop :=
  (∃ l A c, numsD ls = some l ∧ e = .returned (.tuple #[.slice A l.length c, .bool true]) ∧ OwnI w' B (.slice A l.length c) (castL l)) ∨ (numsD ls = none ∧ e = .returned (.tuple #[.slice none 0 0, .bool false]))
set_option maxHeartbeats 8000000 in
theorem Nums_any {W0 w : World} (hG : Glob W0) (hbW : Below W0.heap.size W0 w) (ws : List ByteArray) (g o c : Nat) (hc : ∀ j x, ws[j]? = some x → w.cell? ⟨g, o + j, none⟩ = some (.string x)) (hq : ws.length ≤ 1000000) (hsz : ∀ x ∈ ws, x.size ≤ 1000000) :
    Calls Tryz.prog 60 #[.slice (some ⟨g, o, none⟩) ws.length c] w fun e w' => NumsPost w.heap.size (ws.map (·.data.toList)) e w' ∧ Below w.heap.size w w' := by
  obtain ⟨q, hqq⟩ : ∃ q, ws.length = q := ⟨_, rfl⟩
  rw [hqq] at hq ⊢
  have Hq := Lib.hid hqq
  have Hc := Lib.hid hc
  have Hsz := Lib.hid hsz
  clear hqq hc hsz
  go_enter Tryz.func60, Tryz.ntmps60
  go_wp2_with fail
  go_loopw [4, 6, 7, 8, 11] (fun v4 _ _ _ i wr => ∃ (k : Nat) (a : Nat → Nat) (A : Option Addr) (cc : Nat), k ≤ q ∧ v4 = .slice A k cc ∧ i = .int .i64 k ∧ Hid (∀ x, x < k → numD ((ws.map (·.data.toList)).getD x []) = some (a x)) ∧ Hid (OwnI wr w.heap.size (.slice A k cc) (castL ((List.range k).map a))) ∧ Hid (Below w.heap.size w wr)) (fun _ _ _ _ i _ => q - (intOf i).toNat)
  case atStart => exact ⟨0, fun _ => 0, none, 0, Nat.zero_le _, rfl, rfl, Lib.hid (fun x hx => by omega), Lib.hid (OwnI.nil _ _), Lib.hid (Below.refl _ _)⟩
  case round =>
    obtain ⟨k, a, A, cc, hk, rfl, rfl, hall, hown, hb⟩ := hrel
    by_cases hlt : k < q
    · obtain ⟨x, hx⟩ : ∃ x, ws[k]? = some x := ⟨_, List.getElem?_eq_getElem (by rw [Hq.out]; exact hlt)⟩
      have c0 := Hc.out k x hx
      have cx := (hb.out.cell (p := ⟨g, o + k, none⟩) (block_lt c0)).trans c0
      have hxs := Hsz.out x (List.mem_of_getElem? hx)
      have hV : Below W0.heap.size W0 wr := hbW.trans (hb.out.mono hbW.size)
      have Hnum := Lib.hid (show (ws.map (·.data.toList)).getD k [] = x.data.toList by simp [List.getD, hx])
      have Hlen := Lib.hid (show k < (ws.map (·.data.toList)).length by rw [List.length_map, Hq.out]; exact hlt)
      have CW := Lib.hid (Word_any hG x (by omega) hV)
      clear c0 hx
      go_wp2_with fail
      with_reducible refine CW.out.mono ?_
      rintro e w5 ⟨hw, hb5⟩
      have Hb5 := Lib.hid (hb.out.trans (hb5.mono hb.out.size))
      have HI := Lib.hid (fun (n : Nat) (hn : n ≤ 9223372036854775807) => hG.itoa (hbW.trans (Hb5.out.mono hbW.size)) n hn)
      have Ho5 := Lib.hid (hown.out.next hb5)
      clear CW cx hb5 hb hown
      have Hno := Lib.hid (fun (h : numD x.data.toList = none) => numsD_none Hlen.out (by rw [Hnum.out]; exact h))
      cases hw with
      | num n hn he =>
        subst he
        have hn63 := (numV_some hn).1
        have f0 : decide ((n : Int) < 0) = false := by simp
        by_cases h4 : x.size ≤ 4
        · have f4 : decide ((x.size : Int) > 4) = false := by simp; omega
          have hit : (⟨(Lib.itoa (n : Int)).toArray⟩ : ByteArray) = x := ba_ext (by rw [ba_of]; exact (numV_some hn).2)
          have Q := HI.out n (by omega)
          rw [hit] at Q
          replace Q := Lib.hid Q
          have Hall := Lib.hid (show ∀ y, y < k + 1 → numD ((ws.map (·.data.toList)).getD y []) = some ((fun j => if j = k then n else a j) y) from fun y hy => by
            rcases Nat.lt_or_ge y k with h1 | h1
            · dsimp only; rw [if_neg (by omega)]; exact hall.out y h1
            · obtain rfl : y = k := by omega
              dsimp only; rw [if_pos rfl, Hnum.out]; exact numD_num hn h4)
          have Hcast := Lib.hid (show castL ((List.range k).map a) ++ [(n : Int)] = castL ((List.range (k + 1)).map fun j => if j = k then n else a j) by
            unfold castL
            rw [List.range_succ, List.map_append, List.map_append, List.map_cons, List.map_nil, List.map_cons, List.map_nil, if_pos rfl, List.map_map, List.map_map]
            congr 1
            refine List.map_congr_left fun j hj => ?_
            rw [List.mem_range] at hj
            show Int.ofNat (a j) = Int.ofNat (if j = k then n else a j)
            rw [if_neg (by omega)])
          have hl : (castL ((List.range k).map a)).length < 2 ^ 40 := by unfold castL; rw [List.length_map, List.length_map, List.length_range]; omega
          have Hlk := Lib.hid (show (castL ((List.range k).map a) ++ [(n : Int)]).length = k + 1 by unfold castL; rw [List.length_append, List.length_map, List.length_map, List.length_range]; rfl)
          clear hit hn HI hall Hnum Hlen Hno
          go_wp2_with fail
          with_reducible refine Q.out.mono ?_
          rintro e w6 ⟨rfl, hb6⟩
          have ho6 := Ho5.out.next hb6
          have Hb6 := Lib.hid (Hb5.out.trans (hb6.mono Hb5.out.size))
          have hs6 := Hb6.out.size
          clear hb6 Q
          go_wp2_with (at_builtin; refine wpList_push_int rfl _ _ rfl rfl (ho6.next ((Below.refl _ _).alloc (Nat.le_refl _) _)) _ (n : Int) rfl (cell_of_row _ _ 0 _ _ _ (heap_alloc_new _ _)) hl (by simp; omega) ?_; intro u1 w7 hown7 hgr7 hblk7 hbl7; obtain ⟨A1, k1, rfl, -⟩ := hown7.form; rw [Hlk.out] at hown7 ⊢; have hb7 := hbl7 w (Hb6.out.alloc hs6 _); rw [Hcast.out] at hown7)
          refine ⟨⟨k + 1, fun j => if j = k then n else a j, A1, k1, ?ya, rfl, ?yb, Hall, Lib.hid hown7, Lib.hid hb7⟩, ?yd⟩
          case ya => omega
          case yb => go_num
          case yd => simp [intOf]; omega
        · have f4 : decide ((x.size : Int) > 4) = true := by simp; omega
          have Hno2 := Lib.hid (Hno.out (numD_long (by omega)))
          clear hn HI hall Hnum Hlen Hno
          go_wp2_with fail
          go_ret2
          exact ⟨.inr ⟨Hno2.out, rfl⟩, Hb5.out⟩
      | neg z hn hz he =>
        subst he
        have f0 : decide (z < 0) = true := by simp; omega
        have Hno2 := Lib.hid (Hno.out (numD_no hn))
        clear hn HI hall Hnum Hlen Hno
        go_wp2_with fail
        go_ret2
        exact ⟨.inr ⟨Hno2.out, rfl⟩, Hb5.out⟩
      | odd n hn h63 hx' he =>
        subst he
        have f0 : decide ((n : Int) < 0) = false := by simp
        have Hno2 := Lib.hid (Hno.out (numD_no hn))
        obtain ⟨y, hy⟩ : ∃ y : ByteArray, (⟨(Lib.itoa (n : Int)).toArray⟩ : ByteArray) = y := ⟨_, rfl⟩
        have hyx : ¬ y.toList = x.toList := fun e => hx' (by rw [Lib.toList_data, Lib.toList_data] at e; rw [← e, ← hy, ba_of])
        have hyb : (y.toList == x.toList) = false := beq_eq_false_iff_ne.2 hyx
        have Q := HI.out n (by omega)
        rw [hy] at Q
        replace Q := Lib.hid Q
        clear hn HI hall Hnum Hlen hx' hy Hno
        by_cases h4 : x.size ≤ 4
        · have f4 : decide ((x.size : Int) > 4) = false := by simp; omega
          go_wp2_with (go_at_call 52; with_reducible refine Q.out.mono ?_; rintro e w6 ⟨rfl, hb6⟩)
          go_ret2
          exact ⟨.inr ⟨Hno2.out, rfl⟩, Hb5.out.trans (hb6.mono Hb5.out.size)⟩
        · have f4 : decide ((x.size : Int) > 4) = true := by simp; omega
          go_wp2_with fail
          go_ret2
          exact ⟨.inr ⟨Hno2.out, rfl⟩, Hb5.out⟩
      | bad hn z t p he =>
        subst he
        have Hno2 := Lib.hid (Hno.out (numD_no hn))
        clear hn HI hall Hnum Hlen Hno
        go_wp2_with fail
        go_ret2
        exact ⟨.inr ⟨Hno2.out, rfl⟩, Hb5.out⟩
    · obtain rfl : k = q := by omega
      have Hn := Lib.hid (show numsD (ws.map (·.data.toList)) = some ((List.range k).map a) by
        rw [numsD_some (a := a) (fun x hx => hall.out x (by rw [List.length_map, Hq.out] at hx; exact hx)), List.length_map, Hq.out])
      clear hlt hall
      go_wp2_with fail
      go_ret2
      have hl : ((List.range k).map a).length = k := by simp
      refine ⟨.inl ⟨_, A, cc, Hn.out, by rw [hl]; rfl, ?_⟩, hb.out⟩
      rw [hl]
      exact hown.out
theorem setStep (name : List UInt8) (pre : List Nat) (x : Nat) : (name ++ pre.flatMap fun (i : Nat) => 32 :: Lib.itoa (i : Int)) ++ (32 :: Lib.itoa (x : Int)) = name ++ (pre ++ [x]).flatMap fun (i : Nat) => 32 :: Lib.itoa (i : Int) := by
  rw [List.flatMap_append, List.flatMap_cons, List.flatMap_nil, List.append_nil, List.append_assoc]
theorem setLen (name : List UInt8) : ∀ (pre : List Nat), (∀ x ∈ pre, x < 64) → (name ++ pre.flatMap fun (i : Nat) => 32 :: Lib.itoa (i : Int)).length ≤ name.length + pre.length * 20
  | [], _ => by simp
  | x :: pre, h => by
    have ih := setLen name pre fun y hy => h y (List.mem_cons_of_mem _ hy)
    have hx := itoa_len19 (n := x) (by have := h x (List.mem_cons_self ..); omega)
    rw [List.length_append] at ih ⊢
    rw [List.flatMap_cons, List.length_append, List.length_cons, List.length_cons]
    omega
theorem ba_app (a b : List UInt8) : (⟨a.toArray⟩ : ByteArray) ++ ⟨b.toArray⟩ = ⟨(a ++ b).toArray⟩ := ba_ext (by simp)
set_option maxHeartbeats 8000000 in
theorem Set_any {W0 w : World} (hG : Glob W0) (hbW : Below W0.heap.size W0 w) (name : List UInt8) (hn : name.length ≤ 1000) (s : Nat) (hs : s < 256) :
    Calls Tryz.prog 83 #[.string ⟨name.toArray⟩, .int .i64 s] w fun e w' => e = .returned (.string ⟨(setV name s).toArray⟩) ∧ Below w.heap.size w w' := by
  refine (callsIn_wide (n := 8)).1 ?_
  have hT : Tab w := hG.tab.next hbW
  have HI := Lib.hid (fun V (hV : Below w.heap.size w V) (n : Nat) (hn : n < 64) => hG.itoa (hbW.trans (hV.mono hbW.size)) n (by omega))
  have Hbit := Lib.hid (fun x (hx : s.testBit x = true) => show x < 8 from by
    rcases Nat.lt_or_ge x 8 with h | h
    · exact h
    · rw [Nat.testBit_lt_two_pow (Nat.lt_of_lt_of_le hs (Nat.pow_le_pow_right (by decide) h : 2 ^ 8 ≤ 2 ^ x))] at hx; cases hx)
  refine callsIn_of_wp_marks Tryz.func83 rfl trivial ?_ rfl
  simp only [Tryz.ntmps83, List.size_toArray, List.length_cons, List.length_nil, Nat.reduceAdd, Nat.reduceSub, Array.replicate_succ, Array.replicate_zero, List.push_toArray, List.append_toArray, List.nil_append, List.cons_append]
  gi_wp2_with fail
  have hx1 := BoxN.new w 9 #[.string ⟨name.toArray⟩]
  have hbl : Below w.heap.size w (w.alloc (.cells #[.string ⟨name.toArray⟩] 9)) := (Below.refl _ _).alloc (Nat.le_refl _) _
  have hsz : (w.alloc (.cells #[.string ⟨name.toArray⟩] 9)).heap.size = w.heap.size + 1 := by simp
  generalize hWW : w.alloc (.cells #[.string ⟨name.toArray⟩] 9) = W at *
  have Hsz := Lib.hid hsz
  clear hsz hWW
  refine (callsIn_wide.2 (Bits_any (s : Nat) _)).mono ?_
  rintro e w4 ⟨rfl, rfl⟩
  have hbX : Below W.heap.size W (W.alloc (.cells #[.int .i64 (s : Nat)] 3)) := (Below.refl _ _).alloc (Nat.le_refl _) _
  have hxd : BoxN (W.alloc (.cells #[.int .i64 (s : Nat)] 3)) W.heap.size 3 #[.int .i64 (s : Nat)] := BoxN.new W _ _
  have hsX : (W.alloc (.cells #[.int .i64 (s : Nat)] 3)).heap.size = W.heap.size + 1 := by simp
  gi_wp2_with fail
  generalize W.alloc (.cells #[.int .i64 (s : Nat)] 3) = X at *
  have hy1 := hx1.all hbX
  have hwX : w.heap.size < X.heap.size := by have := Hsz.out; omega
  have hblX := hbl.trans (hbX.mono (by have := Hsz.out; omega))
  have hTX : Tab X := hT.next hblX
  have htl := hT.lt
  clear hsX hx1 hbX hbl hT
  refine wp_bits1 (by decide) 5 (B := W.heap.size) (s := s) rfl (hxd.cell rfl) (by omega) hTX
    (fun pre Y => BoxN Y w.heap.size 9 #[.string ⟨(name ++ pre.flatMap fun (i : Nat) => 32 :: Lib.itoa (i : Int)).toArray⟩] ∧ Below w.heap.size w Y ∧ Hid (∀ x, x ∈ pre → x < 64))
    (fun cd _ Y => False)
    (fun _ _ _ _ hs hg hr => ⟨hs.1.own hg (fun r e => (hr r e).2), below_own hs.2.1 (Nat.le_refl _) (by omega) hg hr, hs.2.2⟩)
    (fun _ _ _ _ _ hs hg hr => hs.elim)
    ⟨by rw [List.flatMap_nil, List.append_nil]; exact hy1, hblX, Lib.hid (fun x hx => by cases hx)⟩ ?assign ?body ?done ?stop
  case assign =>
    intro l x Y K hK
    gi_wp2
    exact hK
  case body =>
    rintro l pre x Y hx hlen' ⟨hY, hblY, hpre⟩
    have hx8 : x < 8 := Hbit.out x hx
    have Hpre2 := Lib.hid (show ∀ y, y ∈ pre ++ [x] → y < 64 from fun y hy => by
      rcases List.mem_append.1 hy with hy | hy
      · exact hpre.out y hy
      · rw [List.mem_singleton.1 hy]; omega)
    have hl1 := setLen name pre hpre.out
    have HQ := Lib.hid (fun V (hV : Below w.heap.size w V) => HI.out V hV x (by omega))
    have Hst := Lib.hid (setStep name pre x)
    have hlx := itoa_len19 (n := x) (by omega)
    have hsx : (⟨(Lib.itoa (x : Int)).toArray⟩ : ByteArray).size = (Lib.itoa (x : Int)).length := by rw [ba_size, ba_of]
    obtain ⟨cur, hcur⟩ : ∃ cur, (name ++ pre.flatMap fun (i : Nat) => 32 :: Lib.itoa (i : Int)) = cur := ⟨_, rfl⟩
    rw [hcur] at hl1 Hst hY
    have hsc : (⟨cur.toArray⟩ : ByteArray).size = cur.length := by rw [ba_size, ba_of]
    have a1 := hY.cell (k := 0) rfl
    have f1 := hY.free 0
    clear hpre hcur hx
    simp only [List.setIfInBounds_toArray, List.set_cons_succ, List.set_cons_zero]
    gi_wp2_with fail
    have hmix : Tryz.prog.follows .mixedOrders = true := by kernel_rfl
    have HQ2 := Lib.hid (fun V (hV : Below w.heap.size w V) => (CallsIn.inRound l ((callsIn_wide (n := 5)).2 (HQ.out V hV)) : CallsIn (Fence.wide.inRound l) 5 Tryz.prog 52 #[.int .i64 (x : Nat)] V _))
    have Hst2 := Lib.hid (show (⟨cur.toArray⟩ : ByteArray) ++ (⟨#[32]⟩ ++ ⟨(Lib.itoa (x : Int)).toArray⟩) = ⟨(name ++ (pre ++ [x]).flatMap fun (i : Nat) => 32 :: Lib.itoa (i : Int)).toArray⟩ by
      rw [← Hst.out, show (⟨#[32]⟩ : ByteArray) = ⟨[32].toArray⟩ from rfl, ba_app, ba_app]; rfl)
    gi_region_with_o (refine (HQ2.out _ (by first | exact hblY.drew | exact hblY)).mono ?_; rintro e w5 ⟨rfl, hb5⟩; have hY5 : BoxN w5 w.heap.size 9 #[.string ⟨cur.toArray⟩] := (by first | exact hY.all hb5 | exact hY.drew.all hb5); have a5 := hY5.cell (k := 0) rfl; have f5 := hY5.free 0; have hbY5 : Below Y.heap.size Y w5 := (by first | exact hb5 | exact ((Below.refl _ _).drew).trans hb5))
    all_goals
      gi_wp2_with fail
      rw [Hst2.out]
      exact ⟨((keepsOthers_below hbY5).trans (KeepsOthers.setCell _ _ _)).from _, (hbY5.mono (by have := hblY.size; omega)).setCell (by simp; omega) _, hY5.set 0 _, (hblY.trans (hbY5.mono hblY.size)).setCell (Nat.le_refl _) _, Hpre2⟩
  case done =>
    rintro D Z hD ⟨hZ, hblZ, hpre⟩ hK
    have a3 := hZ.cell (k := 0) rfl
    gi_wp2_with fail
    refine leaves_marks (B := w.heap.size) [D] _ (MarksAt.nil.cons (by omega) (by simp) hK) fun w' hsc hb' _ => ?_
    exact ⟨_, results_tmp rfl _ _ _, rfl, hblZ.trans hb'⟩
  case stop =>
    intros
    rename_i h _
    exact h.elim
end Go.Proofs.YtanlmfnhlldkeaaGreatDoor
