/-
  A kernel as it is loaded, part for part.
-/
import Derived.Test.YtanlmfnhlldkeaaGreatDoorKLdB
import Derived.Test.YtanlmfnhlldkeaaGreatDoorKerE
import Derived.Test.YtanlmfnhlldkeaaGreatDoorDkC
namespace Go.Proofs.YtanlmfnhlldkeaaGreatDoor
open Go.RowKit
set_option maxRecDepth 100000
set_option linter.unusedVariables false

/-- The state with i parts and j rows in. -/
def stG (R : List (List Int)) (n i j : Nat) : KState :=
  ⟨fun a => if a < i then ⟨((R.getD (1 + a) []).getD 0 0).toNat, fun r => if r < 4 then (R.getD (1 + a) []).getD (1 + r) 0 else 0, (R.getD (1 + a) []).drop 5⟩ else ⟨0, fun _ => 0, []⟩,
   fun b => if b < j then R.getD (1 + n + b) [] else []⟩
theorem stG_none (R : List (List Int)) (n : Nat) : stG R n 0 0 = kNew := rfl
theorem stG_all (R : List (List Int)) (n q : Nat) : stG R n n q = stOf R n q := rfl
theorem stG_part (R : List (List Int)) (n i j : Nat) : stG R n (i + 1) j = (stG R n i j).place i ⟨((R.getD (1 + i) []).getD 0 0).toNat, upd (upd (upd (upd (fun _ => 0) 0 ((R.getD (1 + i) []).getD 1 0)) 1 ((R.getD (1 + i) []).getD 2 0)) 2 ((R.getD (1 + i) []).getD 3 0)) 3 ((R.getD (1 + i) []).getD 4 0), (R.getD (1 + i) []).drop 5⟩ := by
  unfold stG KState.place
  congr 1
  funext a
  unfold upd
  by_cases e : a = i
  · subst e
    rw [if_pos (by omega), if_pos rfl]
    congr 1
    funext r
    match r with
    | 0 => rfl
    | 1 => rfl
    | 2 => rfl
    | 3 => rfl
    | r + 4 => rw [if_neg (by omega), if_neg (by omega), if_neg (by omega), if_neg (by omega), if_neg (by omega)]
  · rw [if_neg e]
    dsimp only
    by_cases h : a < i
    · rw [if_pos h, if_pos (by omega)]
    · rw [if_neg h, if_neg (by omega)]
theorem stG_port (R : List (List Int)) (n i j : Nat) : stG R n i (j + 1) = (stG R n i j).port j (R.getD (1 + n + j) []) := by
  unfold stG KState.port
  congr 1
  funext b
  unfold upd
  by_cases e : b = j
  · subst e
    rw [if_pos (by omega), if_pos rfl]
  · rw [if_neg e]
    dsimp only
    by_cases h : b < j
    · rw [if_pos h, if_pos (by omega)]
    · rw [if_neg h, if_neg (by omega)]
theorem stG_at (R : List (List Int)) (n i j : Nat) : (stG R n i j).parts i = ⟨0, fun _ => 0, []⟩ := if_neg (Nat.lt_irrefl _)
theorem firstC_at {f : Nat → Nat} {n a : Nat} (ha : a < n) (h0 : ∀ b, b < a → f b = 0) (h : f a ≠ 0) : firstC f n 0 = f a := by
  have : ∀ i, i ≤ a → firstC f n 0 = firstC f (n - i) i := fun i => by
    induction i with
    | zero => intro _; rw [Nat.sub_zero]
    | succ i ih => intro hi; rw [ih (by omega), firstC_next (by omega) (h0 i (by omega))]
  rw [this a (Nat.le_refl _), firstC_bad ha h]
theorem shape_part {R : List (List Int)} {n q a : Nat} (h1 : R.length = 1 + n + q) (h2 : (R.getD 0 []).length = 1) (h3 : (R.getD 0 []).getD 0 0 ≤ 300) (ha : a < n) (h0 : ∀ b, b < a → partC R b = 0) (h : partC R a ≠ 0) : shapeK R n q = partC R a := by
  unfold shapeK
  rw [if_neg (by rintro (e | e) <;> omega), if_neg (by omega), firstC_at ha h0 h, if_pos h]
theorem parts_none {R : List (List Int)} {n : Nat} (h0 : ∀ b, b < n → partC R b = 0) : firstC (partC R) n 0 = 0 := firstC_all fun j _ hj => h0 j (by omega)
theorem shape_held {R : List (List Int)} {n q a : Nat} (h1 : R.length = 1 + n + q) (h2 : (R.getD 0 []).length = 1) (h3 : (R.getD 0 []).getD 0 0 ≤ 300) (hp : ∀ b, b < n → partC R b = 0) (ha : a < q) (h0 : ∀ b, b < a → heldC R n b = 0) (h : heldC R n a ≠ 0) : shapeK R n q = heldC R n a := by
  unfold shapeK
  rw [if_neg (by rintro (e | e) <;> omega), if_neg (by omega), parts_none hp, if_neg (by decide), firstC_at ha h0 h]
theorem shape_good {R : List (List Int)} {n q : Nat} (h1 : R.length = 1 + n + q) (h2 : (R.getD 0 []).length = 1) (h3 : (R.getD 0 []).getD 0 0 ≤ 300) (hp : ∀ b, b < n → partC R b = 0) (h0 : ∀ b, b < q → heldC R n b = 0) : shapeK R n q = 0 := by
  unfold shapeK
  rw [if_neg (by rintro (e | e) <;> omega), if_neg (by omega), parts_none hp, if_neg (by decide)]
  exact firstC_all fun j _ hj => h0 j (by omega)
/-- The five stores of a part. -/
def sPc (s : KState) (i pc : Nat) : KState := s.place i ⟨pc, (s.parts i).regs, (s.parts i).shown⟩
def sReg (s : KState) (i a : Nat) (x : Int) : KState := s.place i ⟨(s.parts i).pc, upd (s.parts i).regs a x, (s.parts i).shown⟩
def sShow (s : KState) (i : Nat) (l : List Int) : KState := s.place i ⟨(s.parts i).pc, (s.parts i).regs, l⟩
theorem stG_load (R : List (List Int)) (n i j pc : Nat) (v1 v2 v3 v4 : Int) (r : List Int) (h : R.getD (1 + i) [] = (pc : Int) :: v1 :: v2 :: v3 :: v4 :: r) :
    sShow (sReg (sReg (sReg (sReg (sPc (stG R n i j) i pc) i 0 v1) i 1 v2) i 2 v3) i 3 v4) i r = stG R n (i + 1) j := by
  rw [stG_part, h]
  unfold sShow sReg sPc
  have pp : ∀ (s : KState) (i : Nat) (x y : KPlace), (s.place i x).place i y = s.place i y := fun s i x y => by unfold KState.place; rw [upd_upd]
  have pa : ∀ (s : KState) (i : Nat) (x : KPlace), (s.place i x).parts i = x := fun s i x => upd_same _ _ _
  simp only [pp, pa, stG_at]
  rfl
/-- The roles, the rows of lines in place. -/
def roleL (r0 : Nat → Nat) (N n : Nat) (rr : Nat → Nat) : Nat → Nat := fun b => if b < N then r0 b else if n + 2 ≤ rr b then 5 + 2 * (rr b - n - 2) else 0
section
variable {role role' r0 r1 rr : Nat → Nat} {lo hi B c n : Nat} {w w' W Y Z V : World} {p : Nat} {K : KF} {L : List (List Int)} {P : List Int} {q : Nat} {T : List Int} {s : KState} {t : Nat} {A : Option Addr} {Ls : List (List Int)} {xs : List Value}
theorem KernAt.lower (h : KernAt role lo hi w p K L P q T s t) {lo' : Nat} (hl : lo' ≤ lo) : KernAt role lo' hi w p K L P q T s t := by
  obtain ⟨⟨a1, a2⟩, ⟨a3, a4⟩, a5, a6⟩ := h.inn
  have hm : ∀ b, b < w.heap.size → readB role lo hi b → readB role lo' hi b := fun b _ hb => ⟨Nat.le_trans hl hb.1, hb.2⟩
  exact ⟨h.box, h.rp, h.rgp, h.rgh, fun b hb => h.low b (by omega), h.new, h.size, ⟨⟨by omega, a2⟩, ⟨by omega, a4⟩, by omega, a6⟩, h.parts, h.held, h.progs.mono hm, h.ports.mono hm, h.turns.mono hm, h.plen⟩
theorem KernAt.begin (h : KernAt r0 lo hi w p K L P q T s t) (hb : Below w.heap.size w Z) (hR : Rws rr B Z A c Ls xs) (hB : w.heap.size ≤ B) (hZ : B ≤ Z.heap.size) : KernAt (roleL r0 B n rr) lo hi Z p K L P q T s t :=
  h.keep hb.size (fun b h1 _ => hb.block b h1) (fun b h1 => if_pos (Nat.lt_of_lt_of_le h1 hB)) fun b h1 => by
    unfold roleL
    rw [if_neg (by omega), if_neg fun h2 => ?_]
    obtain ⟨_, cur, fr, hc⟩ := hR.low b (by omega)
    have := (Array.getElem?_eq_some_iff.1 hc).1
    omega
/-- A row of a port, with its role. -/
theorem Rws.port (hR : Rws rr B Z A c Ls xs) {j : Nat} {x : Value} {l : List Int} (h1 : xs[1 + n + j]? = some x) (h2 : Ls[1 + n + j]? = some l) : RowW (roleL r0 B n rr) (5 + 2 * j) Z x l := by
  rcases hR.row _ _ _ h1 h2 with h0 | ⟨g, off, cc, cur, a1, a2, a3, a4, a5, a6, a7⟩
  · exact .inl h0
  · refine .inr ⟨g, off, cc, cur, a1, a2, a3, a4, a5, ?_, a7⟩
    obtain ⟨hB, _⟩ := hR.low g (by omega)
    unfold roleL
    rw [if_neg (by omega), if_pos (by omega), a6]
    omega
theorem Rws.bnd (hR : Rws rr B Z A c Ls xs) (hne : Ls ≠ []) : ∃ g, A = some ⟨g, 0, none⟩ ∧ B ≤ g ∧ g < Z.heap.size ∧ ∀ j x, xs[j]? = some x → Z.cell? ⟨g, j, none⟩ = some x := by
  rcases hR.own.2 with ⟨_, h0⟩ | ⟨g, cap, cur, hv, hb, hc, hn, hm, hs, ht⟩
  · exact absurd (List.length_eq_zero_iff.1 h0) hne
  · injection hv with h1 h2 h3
    refine ⟨g, h1, hb, (Array.getElem?_eq_some_iff.1 hc).1, fun j x hj => ?_⟩
    have hjl := (List.getElem?_eq_some_iff.1 hj).1
    have hxl := hR.xl
    have h5 : (cur.toList.take (Ls.length * 1))[j]? = some x := by rw [ht, hj]
    rw [Nat.mul_one, List.getElem?_take_of_lt (by omega), Array.getElem?_toList] at h5
    exact cell_of_row _ _ j _ _ _ (by rw [hc]) |>.trans h5
/-- The kernel is loaded as far as this; all else lies still. -/
def LdK (r1 : Nat → Nat) (lo hi : Nat) (Z Y : World) (p : Nat) (K : KF) (L : List (List Int)) (P : List Int) (q : Nat) (T : List Int) (s : KState) (t : Nat) : Prop :=
  ∃ role, KernAt role lo hi Y p K L P q T s t ∧ (∀ b, b < Z.heap.size → role b = r1 b) ∧ QKeeps (fun b => b = p ∨ b = K.gp ∨ b = K.gh) Z Y
theorem LdK.start (h : KernAt r1 lo hi Z p K L P q T s t) : LdK r1 lo hi Z Z p K L P q T s t := ⟨r1, h, fun _ _ => rfl, QKeeps.refl _ _⟩
theorem LdK.drewN (h : LdK r1 lo hi Z Y p K L P q T s t) (k : Nat) : LdK r1 lo hi Z (Y.drewN k) p K L P q T s t := by
  obtain ⟨role, h1, h2, h3⟩ := h
  exact ⟨role, h1.keep (Nat.le_refl _) (fun _ _ _ => rfl) (fun _ _ => rfl) h1.new, h2, h3.drewN k⟩
theorem LdK.tick (h : LdK r1 lo hi Z Y p K L P q T s t) (t' : Nat) : LdK r1 lo hi Z (Y.setCell ⟨p, 5, none⟩ (.int .i64 t')) p K L P q T s t' := by
  obtain ⟨role, h1, h2, h3⟩ := h
  exact ⟨role, h1.setTick t', h2, h3.setCell (p := ⟨p, 5, none⟩) (.inl rfl) _⟩
theorem LdK.setPc (h : LdK r1 lo hi Z Y p K L P q T s t) {i : Nat} (hil : i < L.length) (pc : Nat) : LdK r1 lo hi Z (Y.setCell ⟨K.gp, i * 6, none⟩ (.int .i64 pc)) p K L P q T (s.place i ⟨pc, (s.parts i).regs, (s.parts i).shown⟩) t := by
  obtain ⟨role, h1, h2, h3⟩ := h
  exact ⟨role, h1.setPc hil pc, h2, h3.setCell (p := ⟨K.gp, i * 6, none⟩) (.inr (.inl rfl)) _⟩
theorem LdK.setReg (h : LdK r1 lo hi Z Y p K L P q T s t) {i a : Nat} (hil : i < L.length) (ha : a < 4) (x : Int) : LdK r1 lo hi Z (Y.setCell ⟨K.gp, i * 6 + 1 + a, none⟩ (.int .i64 x)) p K L P q T (s.place i ⟨(s.parts i).pc, upd (s.parts i).regs a x, (s.parts i).shown⟩) t := by
  obtain ⟨role, h1, h2, h3⟩ := h
  exact ⟨role, h1.setReg hil ha x, h2, h3.setCell (p := ⟨K.gp, i * 6 + 1 + a, none⟩) (.inr (.inl rfl)) _⟩
theorem LdK.setHeld (h : LdK r1 lo hi Z Y p K L P q T s t) {j : Nat} (hj : j < q) {v : Value} {l : List Int} (hv : RowW r1 (5 + 2 * j) Z v l) (hoff : ∀ b, r1 b = 5 + 2 * j → b ≠ p ∧ b ≠ K.gp ∧ b ≠ K.gh) : LdK r1 lo hi Z (Y.setCell ⟨K.gh, j, none⟩ v) p K L P q T (s.port j l) t := by
  obtain ⟨role, h1, h2, h3⟩ := h
  refine ⟨role, h1.setHeld hj (hv.keep (fun g hg hr => h3.block g hg fun e => ?_) h2), h2, h3.setCell (p := ⟨K.gh, j, none⟩) (.inr (.inr rfl)) _⟩
  obtain ⟨n1, n2, n3⟩ := hoff g hr
  rcases e with e | e | e
  · exact n1 e
  · exact n2 e
  · exact n3 e
theorem LdK.same (h : LdK r1 lo hi Z Y p K L P q T s t) (hs : Y.heap.size ≤ V.heap.size) (hb : Below Y.heap.size Y V) : LdK r1 lo hi Z V p K L P q T s t := by
  obtain ⟨role, h1, h2, h3⟩ := h
  exact ⟨role, h1.below hb, h2, h3.trans (QKeeps.of_below (S := fun _ => False) hb) (fun _ hh => hh.elim)⟩
theorem LdK.setShown (h : LdK r1 lo hi Z Y p K L P q T s t) {i : Nat} (hil : i < L.length) (hb : Below Y.heap.size Y V) {A1 : Option Addr} {n1 c1 : Nat} {l : List Int} (hv : OwnI V Y.heap.size (.slice A1 n1 c1) l) : LdK r1 lo hi Z (V.setCell ⟨K.gp, i * 6 + 5, none⟩ (.slice A1 n1 c1)) p K L P q T (s.place i ⟨(s.parts i).pc, (s.parts i).regs, l⟩) t := by
  obtain ⟨role, h1, h2, h3⟩ := h
  have hlt : ∀ g, A1 = some ⟨g, 0, none⟩ → Y.heap.size ≤ g ∧ g < V.heap.size := fun g e => by
    have h5 : V.ownsRow Y.heap.size 3 1 (.slice A1 n1 c1) l.length (l.map (.int .i64)) := hv
    rcases h5.2 with ⟨hv, _⟩ | ⟨g', cap, cur, hv, hb', hc, _⟩
    · injection hv with h1; rw [e] at h1; cases h1
    · injection hv with h1
      rw [e] at h1
      injection h1 with h1
      injection h1 with h1
      subst h1
      exact ⟨hb', (Array.getElem?_eq_some_iff.1 hc).1⟩
  have hz := h3.size
  have hk : KernAt (fun b => if A1 = some ⟨b, 0, none⟩ then 4 + 2 * i else role b) lo hi V p K L P q T s t := h1.keep hb.size (fun b hb1 _ => hb.block b hb1) (fun b hb1 => if_neg fun e => by have := (hlt b e).1; omega) fun b hb1 => by
    show (if A1 = some ⟨b, 0, none⟩ then 4 + 2 * i else role b) = 0
    rw [if_neg fun e => by have := (hlt b e).2; omega]
    exact h1.new b (Nat.le_trans hb.size hb1)
  refine ⟨_, hk.setShown hil (own_rowW hv fun g e => if_pos e), fun b hb1 => ?_, (h3.trans (QKeeps.of_below (S := fun _ => False) hb) (fun _ hh => hh.elim)).setCell (p := ⟨K.gp, i * 6 + 5, none⟩) (.inr (.inl rfl)) _⟩
  show (if A1 = some ⟨b, 0, none⟩ then 4 + 2 * i else role b) = r1 b
  rw [if_neg fun e => by have := (hlt b e).1; omega]
  exact h2 b hb1
end
set_option maxHeartbeats 400000 in
theorem CloneI_own (L : List Int) (n : Nat) (hL : L.length = n * 1) (A : Option Addr) (c : Nat) (w : World) (h : IntsAt w A L) (hn : n ≤ 1000000) :
    Calls Tryz.prog 31 #[.slice A n c] w fun e w' => (∃ A' c', e = .returned (.slice A' n c') ∧ OwnI w' w.heap.size (.slice A' n c') L) ∧ Below w.heap.size w w' := by
  have q22 := fun (w : World) (a : Option Addr) (n c n' c' : Nat) => Lib.run_eql_slice_nil w _ _ a n c n' c' Tryz.underlying24
  cases A with
  | none =>
    have hL0 : L = [] := Classical.byContradiction fun e => by obtain ⟨b, off, hA, _⟩ := h e; cases hA
    subst hL0
    obtain rfl : n = 0 := by simp at hL; omega
    go_enter Tryz.func31, Tryz.ntmps31
    go_wp2
    go_ret
    exact ⟨⟨none, 0, rfl, World.ownsRow_nil _ _ _ 1⟩, Below.refl _ _⟩
  | some a =>
    have hown : (w.alloc (.cells #[] 3)).ownsRow w.heap.size 3 1 (.slice (some ⟨w.heap.size, 0, none⟩) 0 0) 0 [] := ⟨rfl, .inr ⟨w.heap.size, 0, #[], rfl, Nat.le_refl _, heap_alloc_new w _, Nat.le_refl _, by unfold maxLen; omega, rfl, rfl⟩⟩
    have hcells : CellsAt (w.alloc (.cells #[] 3)) (some a) (L.map (.int .i64)) := (h.below ((Below.refl _ w).alloc (Nat.le_refl _) _)).cells
    have Hc := Lib.hid h
    go_enter Tryz.func31, Tryz.ntmps31
    go_wp2_with (at_builtin; refine wpList_append_cells rfl _ _ rfl eII rfl hown (some a) n c (L.map (.int .i64)) rfl hcells (by simp [hL]) (fun u hu => by obtain ⟨x, _, rfl⟩ := List.mem_map.1 hu; rfl) (by omega) (by omega) (by simp) ?_; intro v' w1 hp)
    have hbl : Below w.heap.size w w1 := hp.below hown ((Below.refl _ w).alloc (Nat.le_refl _) _) (by simp)
    have hown1 := hp.own
    rw [Nat.zero_add, List.nil_append] at hown1
    obtain ⟨A', c', rfl⟩ := ownsRow_form hown1
    clear hp
    have Hown := Lib.hid hown1
    clear hown1
    go_wp2
    go_ret
    obtain rfl : n = L.length := by omega
    exact ⟨⟨A', c', rfl, Hown.out⟩, hbl⟩
/-- Four registers are copied. -/
theorem copy_regs {V : World} {gp o g off sl sc : Nat} {v1 v2 v3 v4 : Int} (hsrc : ∀ j v, [v1, v2, v3, v4][j]? = some v → V.cell? ⟨g, off + j, none⟩ = some (.int .i64 v)) (hc : ∀ j, j < 4 → (V.cell? ⟨gp, o + j, none⟩).isSome = true) (hf : ∀ j, V.frozen? ⟨gp, j, none⟩ = false) (hsl : 4 ≤ sl) :
    (Builtin.copy_ #[24, 24] 3 #[.slice (some ⟨gp, o, none⟩) 4 4, .slice (some ⟨g, off, none⟩) sl sc]).run Tryz.prog V = .ok (.int .i64 4) ((((V.setCell ⟨gp, o, none⟩ (.int .i64 v1)).setCell ⟨gp, o + 1, none⟩ (.int .i64 v2)).setCell ⟨gp, o + 2, none⟩ (.int .i64 v3)).setCell ⟨gp, o + 3, none⟩ (.int .i64 v4)) := by
  obtain ⟨i, z, hi, hz, hsize, -⟩ := eII.info
  exact run_copy_cells V 24 24 3 3 gp o 4 4 ⟨g, off, none⟩ sl sc ([v1, v2, v3, v4].map (.int .i64)) Tryz.underlying24 (by rw [hi]; exact congrArg some hsize) (by show 4 = Nat.min sl 4; exact (Nat.min_eq_right hsl).symm)
    (fun j v hj => by
      rw [List.getElem?_map] at hj
      obtain ⟨x, hx, rfl⟩ := Option.map_eq_some_iff.1 hj
      have hadd : (⟨g, off, none⟩ : Addr).add j = ⟨g, off + j, none⟩ := by unfold Addr.add; split <;> simp_all
      rw [hadd]
      exact hsrc j x hx) (fun j hj => hc j hj) (fun j hj => hf _) (fun v hv => by obtain ⟨x, _, rfl⟩ := List.mem_map.1 hv; rfl)
end Go.Proofs.YtanlmfnhlldkeaaGreatDoor
