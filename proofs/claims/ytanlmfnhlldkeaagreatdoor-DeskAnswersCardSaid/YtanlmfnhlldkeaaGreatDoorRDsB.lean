/-
  Contract: quietwingref5.add.
-/
import Derived.Test.YtanlmfnhlldkeaaGreatDoorRDsPA
namespace Go.Proofs.YtanlmfnhlldkeaaGreatDoor
open Go.RowKit
set_option maxRecDepth 100000
set_option linter.unusedVariables false

theorem ownsRow_addr {w : World} {base n c size : Nat} {t : TypeId} {A : Option Addr} {xs : List Value} {b off : Nat} (h : w.ownsRow base t size (.slice A n c) n xs) (e : A = some ⟨b, off, none⟩) : Value.slice A n c = .slice (some ⟨b, 0, none⟩) n c := by
  rcases h.2 with ⟨hv, _⟩ | ⟨g, cap, cur, hv, _⟩
  · injection hv with h1; rw [e] at h1; cases h1
  · injection hv with h1
    rw [e] at h1
    injection h1 with h1
    injection h1 with h1 h2
    rw [e, h2]
def addR (up : Bool) (n : Nat) (L : List Int) (s : List UInt8) : List Int × List UInt8 := match parseV s with
  | none => (L, nameE 2)
  | some (l, x) => if up = true then (L, stateL) else if n = 8 then (L, fullL) else (L ++ [(l : Int), (x : Int)], okL)
def RAddPost (B : Nat) (A : Option Addr) (L : List Int) (r : List Int × List UInt8) (e : Ending) (w' : World) : Prop := ∃ A' n' c', e = .returned (.tuple #[.slice A' n' c', .string ⟨r.2.toArray⟩]) ∧ IntsAt w' A' r.1 ∧ r.1.length = n' * 2 ∧ ((A' = A ∧ r.1 = L) ∨ ∀ b off, A' = some ⟨b, off, none⟩ → B ≤ b)
set_option maxHeartbeats 8000000 in
theorem RAdd_any {L : List Int} {A a1 a2 : Option Addr} {n c m1 c1 n1 c2 : Nat} {t0 t1 t2 t3 t4 t5 t6 t7 : Value} {w : World} (up : Bool) (hA : IntsAt w A L) (hL : L.length = n * 2) (hn : n ≤ 8) (s : ByteArray) (hs : s.size < 2 ^ 48) :
    Calls Tryz.prog 65 #[.agg #[.slice a1 m1 c1, .slice a2 n1 c2, t0, t1, t2, t3, t4, t5, t6, t7, .bool up], .slice A n c, .string s] w fun e w' => RAddPost w.heap.size A L (addR up n L s.data.toList) e w' ∧ Below w.heap.size w w' := by
  have CP := Lib.hid (fun V => RParse_any s V hs)
  unfold rparseRes at CP
  unfold addR
  cases hp : parseV s.data.toList with
  | none =>
    simp only [hp] at CP ⊢
    clear hp
    cases up with
    | true =>
      have hx := BoxN.new w 103 #[.slice a1 m1 c1, .slice a2 n1 c2, t0, t1, t2, t3, t4, t5, t6, t7, .bool true]
      have hb : Below w.heap.size w (w.alloc (.cells #[.slice a1 m1 c1, .slice a2 n1 c2, t0, t1, t2, t3, t4, t5, t6, t7, .bool true] 103)) := (Below.refl _ _).alloc (Nat.le_refl _) _
      go_enter Tryz.func65, Tryz.ntmps65
      go_wp2_with fail
      generalize w.alloc (.cells #[.slice a1 m1 c1, .slice a2 n1 c2, t0, t1, t2, t3, t4, t5, t6, t7, .bool true] 103) = w1 at *
      have HA := Lib.hid hA
      have Hb := Lib.hid hb
      clear hA hb
      with_reducible refine (CP.out _).mono ?_
      rintro e w2 ⟨rfl, hb2⟩
      have hbf := Hb.out.trans (hb2.mono Hb.out.size)
      have hb3 : Below w2.heap.size w2 (w2.alloc (.cells #[.int .i64 0, .int .i64 0] 144)) := (Below.refl _ _).alloc (Nat.le_refl _) _
      clear hx CP
      go_wp2_with fail
      go_ret2
      exact ⟨⟨A, n, c, rfl, ((HA.out.below Hb.out).below hb2).below hb3, hL, .inl ⟨rfl, rfl⟩⟩, hbf.trans (hb3.mono hbf.size)⟩
    | false =>
      have hx := BoxN.new w 103 #[.slice a1 m1 c1, .slice a2 n1 c2, t0, t1, t2, t3, t4, t5, t6, t7, .bool false]
      have hb : Below w.heap.size w (w.alloc (.cells #[.slice a1 m1 c1, .slice a2 n1 c2, t0, t1, t2, t3, t4, t5, t6, t7, .bool false] 103)) := (Below.refl _ _).alloc (Nat.le_refl _) _
      go_enter Tryz.func65, Tryz.ntmps65
      go_wp2_with fail
      generalize w.alloc (.cells #[.slice a1 m1 c1, .slice a2 n1 c2, t0, t1, t2, t3, t4, t5, t6, t7, .bool false] 103) = w1 at *
      have HA := Lib.hid hA
      have Hb := Lib.hid hb
      clear hA hb
      with_reducible refine (CP.out _).mono ?_
      rintro e w2 ⟨rfl, hb2⟩
      have hbf := Hb.out.trans (hb2.mono Hb.out.size)
      have hb3 : Below w2.heap.size w2 (w2.alloc (.cells #[.int .i64 0, .int .i64 0] 144)) := (Below.refl _ _).alloc (Nat.le_refl _) _
      clear hx CP
      go_wp2_with fail
      go_ret2
      exact ⟨⟨A, n, c, rfl, ((HA.out.below Hb.out).below hb2).below hb3, hL, .inl ⟨rfl, rfl⟩⟩, hbf.trans (hb3.mono hbf.size)⟩
  | some lx =>
    obtain ⟨l, x⟩ := lx
    simp only [hp] at CP ⊢
    clear hp
    cases up with
    | true =>
      rw [if_pos rfl]
      have hx := BoxN.new w 103 #[.slice a1 m1 c1, .slice a2 n1 c2, t0, t1, t2, t3, t4, t5, t6, t7, .bool true]
      have hb : Below w.heap.size w (w.alloc (.cells #[.slice a1 m1 c1, .slice a2 n1 c2, t0, t1, t2, t3, t4, t5, t6, t7, .bool true] 103)) := (Below.refl _ _).alloc (Nat.le_refl _) _
      go_enter Tryz.func65, Tryz.ntmps65
      go_wp2_with fail
      generalize w.alloc (.cells #[.slice a1 m1 c1, .slice a2 n1 c2, t0, t1, t2, t3, t4, t5, t6, t7, .bool true] 103) = w1 at *
      have HA := Lib.hid hA
      have Hb := Lib.hid hb
      clear hA hb
      with_reducible refine (CP.out _).mono ?_
      rintro e w2 ⟨rfl, hb2⟩
      have hbf := Hb.out.trans (hb2.mono Hb.out.size)
      have hbz : BoxN (w2.alloc (.cells #[.int .i64 (l : Int), .int .i64 (x : Int)] 144)) w2.heap.size 144 #[.int .i64 (l : Int), .int .i64 (x : Int)] := BoxN.new _ _ _
      have hb3 : Below w2.heap.size w2 (w2.alloc (.cells #[.int .i64 (l : Int), .int .i64 (x : Int)] 144)) := (Below.refl _ _).alloc (Nat.le_refl _) _
      have hup := (hx.all (hb2.trans (hb3.mono hb2.size))).cell (k := 10) rfl
      have hup2 := (hx.all hb2).cell (k := 10) rfl
      have HA3 := Lib.hid (((HA.out.below Hb.out).below hb2).below hb3)
      have Hb3 := Lib.hid (hbf.trans (hb3.mono hbf.size))
      have hlt2 : w.heap.size < w2.heap.size := (hx.all hb2).lt
      have hne : ¬ w.heap.size = w2.heap.size := by omega
      clear hx CP hb2 hbf
      go_wp2_with fail
      go_ret2
      exact ⟨⟨A, n, c, rfl, HA3.out, hL, .inl ⟨rfl, rfl⟩⟩, Hb3.out⟩
    | false =>
      rw [if_neg (by decide)]
      by_cases h8 : n = 8
      · subst h8
        rw [if_pos rfl]
        have hx := BoxN.new w 103 #[.slice a1 m1 c1, .slice a2 n1 c2, t0, t1, t2, t3, t4, t5, t6, t7, .bool false]
        have hb : Below w.heap.size w (w.alloc (.cells #[.slice a1 m1 c1, .slice a2 n1 c2, t0, t1, t2, t3, t4, t5, t6, t7, .bool false] 103)) := (Below.refl _ _).alloc (Nat.le_refl _) _
        go_enter Tryz.func65, Tryz.ntmps65
        go_wp2_with fail
        generalize w.alloc (.cells #[.slice a1 m1 c1, .slice a2 n1 c2, t0, t1, t2, t3, t4, t5, t6, t7, .bool false] 103) = w1 at *
        have HA := Lib.hid hA
        have Hb := Lib.hid hb
        clear hA hb
        with_reducible refine (CP.out _).mono ?_
        rintro e w2 ⟨rfl, hb2⟩
        have hbf := Hb.out.trans (hb2.mono Hb.out.size)
        have hbz : BoxN (w2.alloc (.cells #[.int .i64 (l : Int), .int .i64 (x : Int)] 144)) w2.heap.size 144 #[.int .i64 (l : Int), .int .i64 (x : Int)] := BoxN.new _ _ _
        have hb3 : Below w2.heap.size w2 (w2.alloc (.cells #[.int .i64 (l : Int), .int .i64 (x : Int)] 144)) := (Below.refl _ _).alloc (Nat.le_refl _) _
        have hup := (hx.all (hb2.trans (hb3.mono hb2.size))).cell (k := 10) rfl
        have hup2 := (hx.all hb2).cell (k := 10) rfl
        have HA3 := Lib.hid (((HA.out.below Hb.out).below hb2).below hb3)
        have Hb3 := Lib.hid (hbf.trans (hb3.mono hbf.size))
        have hlt2 : w.heap.size < w2.heap.size := (hx.all hb2).lt
        have hne : ¬ w.heap.size = w2.heap.size := by omega
        clear hx CP hb2 hbf
        go_wp2_with fail
        go_ret2
        exact ⟨⟨A, 8, c, rfl, HA3.out, hL, .inl ⟨rfl, rfl⟩⟩, Hb3.out⟩
      · rw [if_neg h8]
        have hx := BoxN.new w 103 #[.slice a1 m1 c1, .slice a2 n1 c2, t0, t1, t2, t3, t4, t5, t6, t7, .bool false]
        have hb : Below w.heap.size w (w.alloc (.cells #[.slice a1 m1 c1, .slice a2 n1 c2, t0, t1, t2, t3, t4, t5, t6, t7, .bool false] 103)) := (Below.refl _ _).alloc (Nat.le_refl _) _
        go_enter Tryz.func65, Tryz.ntmps65
        go_wp2_with fail
        generalize w.alloc (.cells #[.slice a1 m1 c1, .slice a2 n1 c2, t0, t1, t2, t3, t4, t5, t6, t7, .bool false] 103) = w1 at *
        have HA := Lib.hid hA
        have Hb := Lib.hid hb
        clear hA hb
        with_reducible refine (CP.out _).mono ?_
        rintro e w2 ⟨rfl, hb2⟩
        have hbf := Hb.out.trans (hb2.mono Hb.out.size)
        have hbz : BoxN (w2.alloc (.cells #[.int .i64 (l : Int), .int .i64 (x : Int)] 144)) w2.heap.size 144 #[.int .i64 (l : Int), .int .i64 (x : Int)] := BoxN.new _ _ _
        have hb3 : Below w2.heap.size w2 (w2.alloc (.cells #[.int .i64 (l : Int), .int .i64 (x : Int)] 144)) := (Below.refl _ _).alloc (Nat.le_refl _) _
        have hup := (hx.all (hb2.trans (hb3.mono hb2.size))).cell (k := 10) rfl
        have hup2 := (hx.all hb2).cell (k := 10) rfl
        have HA3 := Lib.hid (((HA.out.below Hb.out).below hb2).below hb3)
        have Hb3 := Lib.hid (hbf.trans (hb3.mono hbf.size))
        have hlt2 : w.heap.size < w2.heap.size := (hx.all hb2).lt
        have hne : ¬ w.heap.size = w2.heap.size := by omega
        clear hx CP hb2 hbf
        have d8 : decide ((n : Int) ≥ 8) = false := by simp; omega
        have d8' : decide (8 ≤ n) = false := by simp; omega
        have HO0 := Lib.hid (OwnL.nil (w2.alloc (.cells #[.int .i64 (l : Int), .int .i64 (x : Int)] 144)) (w2.heap.size + 1))
        have HZ := Lib.hid hbz
        clear hbz
        go_wp2_with (at_builtin; first
          | (refine wpList_append_cells rfl _ _ rfl eLabels rfl (HO7.out.next ((Below.refl _ _).alloc (Nat.le_refl _) (.cells #[.int .i64 (l : Int), .int .i64 (x : Int)] 144))) (some ⟨w7.heap.size, 0, none⟩) 1 1 [.int .i64 (l : Int), .int .i64 (x : Int)] rfl (cellsAt_new w7 _ [.int .i64 (l : Int), .int .i64 (x : Int)]) rfl (fun u hu => by simp at hu; rcases hu with rfl | rfl <;> rfl) (by omega) (by omega) (by simp; omega) ?_; intro v8 w8 hp8; obtain ⟨A8, c8, rfl⟩ := ownsRow_form hp8.own; have HP8 := Lib.hid hp8; clear hp8)
          | (refine wpList_append_cells rfl _ _ rfl eLabels rfl HO0.out A n c (L.map (.int .i64)) rfl HA3.out.cells (by rw [List.length_map]; exact hL) (fun u hu => by obtain ⟨y, _, rfl⟩ := List.mem_map.1 hu; rfl) (by omega) (by omega) (by simp) ?_; intro v7 w7 hp7; have hown7 := hp7.own; rw [Nat.zero_add, List.map_nil, List.nil_append] at hown7; obtain ⟨A7, c7, rfl⟩ := ownsRow_form hown7; have hb7 := hp7.below HO0.out (Below.refl _ _) (by simp); have hbz7 := HZ.out.below hb7 (by omega); have z0 := hbz7.cell (k := 0) rfl; have z1 := hbz7.cell (k := 1) rfl; have hs7 := hb7.size; simp at hs7; have HO7 : Hid (OwnL w7 (w2.heap.size + 1) (.slice A7 n c7) n L) := Lib.hid hown7; have Hb7 := Lib.hid hb7; clear hp7 hown7 hb7 hbz7))
        have hown8 : w8.ownsRow (w2.heap.size + 1) 144 2 (.slice A8 (n + 1) c8) (n + 1) ((L ++ [(l : Int), (x : Int)]).map (.int .i64)) := by rw [List.map_append]; exact HP8.out.own
        have hb8 := HP8.out.below (HO7.out.next ((Below.refl _ _).alloc (Nat.le_refl _) (.cells #[.int .i64 (l : Int), .int .i64 (x : Int)] 144))) (Hb7.out.alloc (by omega) _) (by simp; omega)
        go_ret2
        exact ⟨⟨A8, n + 1, c8, rfl, (CellsAt.own hown8).ints, by rw [List.length_append, hL]; simp; omega, .inr fun b off e => by have h1 := (hown8.lt b (by rw [ownsRow_addr hown8 e]; rfl)).1; omega⟩, Hb3.out.trans (hb8.mono (by omega))⟩
end Go.Proofs.YtanlmfnhlldkeaaGreatDoor
