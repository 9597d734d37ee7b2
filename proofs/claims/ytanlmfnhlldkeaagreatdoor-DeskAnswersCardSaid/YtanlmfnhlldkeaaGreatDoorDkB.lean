/-
  The desk in memory; contract: (*desk.desk).add.
-/
import Derived.Test.YtanlmfnhlldkeaaGreatDoorDkA
import Derived.Test.YtanlmfnhlldkeaaGreatDoorParse
import Derived.Deep.RegionLaw
namespace Go.Proofs.YtanlmfnhlldkeaaGreatDoor
open Go.RowKit
set_option maxRecDepth 100000
set_option linter.unusedVariables false

/-- A row of labels of one's own. -/
def OwnL (w : World) (base : Nat) (v : Value) (n : Nat) (xs : List Int) : Prop := w.ownsRow base 144 2 v n (xs.map (.int .i64))
theorem eLabels : EInfo Tryz.prog 91 144 2 16 := EInfo.of (z := .agg #[.int .i64 0, .int .i64 0]) Tryz.underlying91 (by kernel_rfl) rfl (by decide)
section
variable {w w' : World} {base n : Nat} {v : Value} {xs : List Int}
theorem OwnL.nil (w : World) (base : Nat) : OwnL w base (.slice none 0 0) 0 [] := World.ownsRow_nil w base _ 2
theorem OwnL.next (h : OwnL w base v n xs) (hb : Below w.heap.size w w') : OwnL w' base v n xs := ownsRow_below h hb (Nat.le_refl _)
theorem OwnL.form (h : OwnL w base v n xs) : ∃ A c, v = .slice A n c ∧ IntsAt w A xs := by
  have h' : w.ownsRow base 144 2 v n (xs.map (.int .i64)) := h
  obtain ⟨A, c, rfl⟩ := ownsRow_form h'
  exact ⟨A, c, rfl, (CellsAt.own h').ints⟩
theorem OwnL.keep (h : OwnL w base v n xs) (hk : ∀ g, v.ownBlock = some g → w'.heap[g]? = w.heap[g]?) : OwnL w' base v n xs := by
  refine ⟨h.1, ?_⟩
  rcases h.2 with h0 | ⟨g, cap, cur, hv, hg, hc, r⟩
  · exact .inl h0
  · exact .inr ⟨g, cap, cur, hv, hg, (hk g (by rw [hv]; rfl)).trans hc, r⟩
theorem OwnL.lt (h : OwnL w base v n xs) {g : Nat} (hg : v.ownBlock = some g) : base ≤ g ∧ g < w.heap.size := by
  have h' : w.ownsRow base 144 2 v n (xs.map (.int .i64)) := h
  exact h'.lt g hg
theorem OwnL.cells (h : OwnL w base v n xs) {g : Nat} (hg : v.ownBlock = some g) : ∃ o : Obj, w.heap[g]? = some o ∧ o.isCells = true := by
  rcases h.2 with ⟨hv, _⟩ | ⟨g', cap, cur, hv, _, hc, _⟩
  · rw [hv] at hg; simp [Value.ownBlock] at hg
  · rw [hv] at hg; simp [Value.ownBlock] at hg; subst hg; exact ⟨_, hc, rfl⟩
theorem OwnL.ne (h : OwnL w base v n xs) {b : Nat} {t : TypeId} {vs : Array Value} (hb : BoxN w b t vs) (ht : t ≠ 144) : v.ownBlock ≠ some b := fun e => by
  rcases h.2 with ⟨hv, _⟩ | ⟨g', cap, cur, hv, _, hc, _⟩
  · rw [hv] at e; simp [Value.ownBlock] at e
  · rw [hv] at e; simp [Value.ownBlock] at e; subst e
    have h2 : w.heap[g']? = _ := hb
    rw [hc] at h2
    injection h2 with h2
    injection h2 with _ h2
    exact ht h2.symm
theorem step_push_lab {ops : Array Oper} {o : Oper} {a : Act} {K : Act → World → Prop} {Q : Exit → Act → World → Prop} {E : Prop} (hgd : o.guard = none) (s x : Operand)
    (ho : o.op = .call { callee := .builtin .append, args := #[s, x], argTypes := #[91, 91] })
    (hs : a.eval s = v) (hown : OwnL w base v n xs) (g : Nat) (x0 x1 : Int) (hx : a.eval x = .slice (some ⟨g, 0, none⟩) 1 1) (hc : BoxN w g 144 #[.int .i64 x0, .int .i64 x1])
    (hn : n < 2 ^ 40) (hbase : base ≤ w.heap.size)
    (h : ∀ B c w', OwnL w' base (.slice B (n + 1) c) (n + 1) (xs ++ [x0, x1]) → w.grownBy w' v.ownBlock → ((Value.slice B (n + 1) c).ownBlock = v.ownBlock ∨ (Value.slice B (n + 1) c).ownBlock = some w.heap.size) → K (a.put o.dst (.slice B (n + 1) c)) w') : if Region.wanted o (yielded ops a.tmps) = true then Oper.wp Tryz.prog o a w K Q else E := by
  have hw : Region.wanted o (yielded ops a.tmps) = true := by simp [Region.wanted, hgd]
  rw [if_pos hw]
  have hown' : w.ownsRow base 144 2 v n (xs.map (.int .i64)) := hown
  have hcells : CellsAt w (some ⟨g, 0, none⟩) [.int .i64 x0, .int .i64 x1] := fun _ => ⟨g, 0, rfl, fun j u hj => by
    rw [Nat.zero_add]
    exact hc.cell (by rw [← Array.getElem?_toList]; exact hj)⟩
  obtain ⟨v', w', hrun, hp⟩ := run_append_cells w o.type eLabels hown' (some ⟨g, 0, none⟩) 1 1 [.int .i64 x0, .int .i64 x1] hcells rfl (fun u hu => by simp at hu; rcases hu with rfl | rfl <;> rfl) (by omega) (by omega) hbase
  have hpu : OwnL w' base v' (n + 1) (xs ++ [x0, x1]) := by
    have := hp.own
    unfold OwnL
    simpa using this
  obtain ⟨B, c, rfl, hi⟩ := hpu.form
  have := h B c w' hpu hp.grew hp.block
  unfold Oper.wp
  simp only [execOp, ho, resolve, invoke, builtin, Sem.run_bind, Sem.run_pure, Result.andThen_ok, List.map_toArray, List.map_cons, List.map_nil, hs, hx, hrun]
  exact this
end

section
variable {w : World} {b k lo m : Nat} {A : Option Addr} {cc : Nat} {L : List Int} {tp : Value} {x : ByteArray}
set_option maxHeartbeats 1000000 in
theorem Add_bad (hE : ErrT w) (hx : x.size < 2 ^ 48) (hp : parseV x.data.toList = none) :
    Calls Tryz.prog 58 #[.pointer (some ⟨b, 0, none⟩), .pointer (some ⟨b, k, none⟩), .int .i64 8, .string x] w fun e w' => e = .returned (.string ⟨(nameE 2).toArray⟩) ∧ Below w.heap.size w w' := by
  have CP := Parse_any x w hx
  unfold parseRes at CP
  rw [hp] at CP
  dsimp only at CP
  unfold labV at CP
  rw [errVal_pos (by decide)] at CP
  have CP := Lib.hid CP
  have CT := Lib.hid (fun V (hV : Below w.heap.size w V) => (show Calls Tryz.prog 80 #[.iface 63 (.int .i64 2)] V fun e w' => e = .returned (.string ⟨(nameE 2).toArray⟩) ∧ Below V.heap.size V w' from dkTold_no 2 V (hE.next hV)))
  clear hp hE
  go_enter Tryz.func58, Tryz.ntmps58
  go_wp2_with fail
  with_reducible refine CP.out.mono ?_
  rintro e w1 ⟨rfl, hb1⟩
  have hb2 := hb1.alloc hb1.size (.cells #[.int .i64 0, .int .i64 0] 144)
  go_wp2_with fail
  with_reducible refine (CT.out _ hb2).mono ?_
  rintro e w3 ⟨rfl, hb3⟩
  go_wp2_with fail
  go_ret
  exact ⟨rfl, hb2.trans (hb3.mono hb2.size)⟩
set_option maxHeartbeats 1000000 in
theorem Add_state (hx : x.size < 2 ^ 48) {l s : Nat} (hp : parseV x.data.toList = some (l, s)) {p : Addr} (c2 : w.cell? ⟨b, 2, none⟩ = some (.pointer (some p))) :
    Calls Tryz.prog 58 #[.pointer (some ⟨b, 0, none⟩), .pointer (some ⟨b, k, none⟩), .int .i64 8, .string x] w fun e w' => e = .returned (.string ⟨stateL.toArray⟩) ∧ Below w.heap.size w w' := by
  have CP := Parse_any x w hx
  unfold parseRes at CP
  rw [hp] at CP
  dsimp only at CP
  unfold labV at CP
  have CP := Lib.hid CP
  have hl := block_lt c2
  clear hp
  go_enter Tryz.func58, Tryz.ntmps58
  go_wp2_with fail
  with_reducible refine CP.out.mono ?_
  rintro e w1 ⟨rfl, hb1⟩
  have c21 := (hb1.cell (p := ⟨b, 2, none⟩) hl).trans c2
  have hb2 := hb1.alloc hb1.size (.cells #[.int .i64 l, .int .i64 s] 144)
  have hl1 : b < w1.heap.size := by have := hb1.size; have : (⟨b, 2, none⟩ : Addr).block < w.heap.size := hl; simp at this; omega
  go_wp2_with fail
  go_ret
  exact ⟨rfl, hb2⟩
set_option maxHeartbeats 1000000 in
theorem Add_full (hx : x.size < 2 ^ 48) {l s : Nat} (hp : parseV x.data.toList = some (l, s)) (c2 : w.cell? ⟨b, 2, none⟩ = some (.pointer none)) (ck : w.cell? ⟨b, k, none⟩ = some (.slice A 8 cc)) :
    Calls Tryz.prog 58 #[.pointer (some ⟨b, 0, none⟩), .pointer (some ⟨b, k, none⟩), .int .i64 8, .string x] w fun e w' => e = .returned (.string ⟨fullL.toArray⟩) ∧ Below w.heap.size w w' := by
  have CP := Parse_any x w hx
  unfold parseRes at CP
  rw [hp] at CP
  dsimp only at CP
  unfold labV at CP
  have CP := Lib.hid CP
  have hl := block_lt c2
  clear hp
  go_enter Tryz.func58, Tryz.ntmps58
  go_wp2_with fail
  with_reducible refine CP.out.mono ?_
  rintro e w1 ⟨rfl, hb1⟩
  have c21 := (hb1.cell (p := ⟨b, 2, none⟩) hl).trans c2
  have ck1 := (hb1.cell (p := ⟨b, k, none⟩) hl).trans ck
  have hb2 := hb1.alloc hb1.size (.cells #[.int .i64 l, .int .i64 s] 144)
  have hl1 : b < w1.heap.size := by have := hb1.size; have : (⟨b, 2, none⟩ : Addr).block < w.heap.size := hl; simp at this; omega
  go_wp2_with fail
  go_ret
  exact ⟨rfl, hb2⟩
set_option maxHeartbeats 4000000 in
theorem Add_push {v0 v1 : Value} (hx : x.size < 2 ^ 48) {l s : Nat} (hp : parseV x.data.toList = some (l, s)) (hbx : BoxN w b 94 #[v0, v1, .pointer none]) (ck : w.cell? ⟨b, k, none⟩ = some (.slice A m cc)) (hm : m < 8) (hown : OwnL w lo (.slice A m cc) m L) (hlo : lo ≤ w.heap.size) :
    Calls Tryz.prog 58 #[.pointer (some ⟨b, 0, none⟩), .pointer (some ⟨b, k, none⟩), .int .i64 8, .string x] w fun e w' => e = .returned (.string ⟨okL.toArray⟩) ∧
      ∃ v' w2, OwnL w2 lo v' (m + 1) (L ++ [(l : Int), (s : Int)]) ∧ v'.ownBlock ≠ some b ∧ BoxN w2 b 94 #[v0, v1, .pointer none] ∧ w' = w2.setCell ⟨b, k, none⟩ v' ∧ (∀ g, v'.ownBlock = some g → (Value.slice A m cc).ownBlock = some g ∨ w.heap.size ≤ g) ∧ QKeeps (fun g => (Value.slice A m cc).ownBlock = some g) w w2 := by
  have CP := Parse_any x w hx
  unfold parseRes at CP
  rw [hp] at CP
  dsimp only at CP
  unfold labV at CP
  have CP := Lib.hid CP
  have hl := hbx.lt
  have g8 : ((m : Int) == 8) = false := by simp; omega
  have hnb := hown.ne hbx (by decide)
  have HO := Lib.hid hown
  have Hnb := Lib.hid hnb
  clear hp hown hnb
  go_enter Tryz.func58, Tryz.ntmps58
  go_wp2_with fail
  with_reducible refine CP.out.mono ?_
  rintro e w1 ⟨rfl, hb1⟩
  have hbx1 := hbx.all hb1
  have c21 : w1.cell? ⟨b, 2, none⟩ = some (.pointer none) := hbx1.cell rfl
  have ck1 := (hb1.cell (p := ⟨b, k, none⟩) hl).trans ck
  have hl1 := hbx1.lt
  have hy := BoxN.new w1 144 #[.int .i64 l, .int .i64 s]
  have hba : Below w1.heap.size w1 (w1.alloc (.cells #[.int .i64 l, .int .i64 s] 144)) := (Below.refl _ _).alloc (Nat.le_refl _) _
  have hs1 := hb1.size
  go_wp2_with fail
  have hb2 := hb1.trans (hba.mono hs1)
  have hbx2 := hbx1.all hba
  have ck2 := (hba.cell (p := ⟨b, k, none⟩) hl1).trans ck1
  generalize w1.alloc (.cells #[.int .i64 l, .int .i64 s] 144) = w2 at *
  generalize w1.heap.size = y at *
  have y0 : w2.cell? ⟨y, 0, none⟩ = some (.int .i64 l) := hy.cell rfl
  have y1 : w2.cell? ⟨y, 1, none⟩ = some (.int .i64 s) := hy.cell rfl
  have f2 := hbx2.free k
  have hl2 := hbx2.lt
  have hs2 := hb2.size
  have hZ : BoxN ((w2.alloc (.cells #[.int .i64 l, .int .i64 s] 144)).drew) w2.heap.size 144 #[.int .i64 l, .int .i64 s] := (BoxN.new w2 _ _).drew
  have hbA : Below w.heap.size w ((w2.alloc (.cells #[.int .i64 l, .int .i64 s] 144)).drew) := (hb2.alloc hs2 _).drew
  have hsA : lo ≤ ((w2.alloc (.cells #[.int .i64 l, .int .i64 s] 144)).drew).heap.size := Nat.le_trans hlo hbA.size
  have hbxA : BoxN ((w2.alloc (.cells #[.int .i64 l, .int .i64 s] 144)).drew) b 94 #[v0, v1, .pointer none] := (hbx2.alloc _).drew
  have ckA : ((w2.alloc (.cells #[.int .i64 l, .int .i64 s] 144)).drew).cell? ⟨b, k, none⟩ = some (.slice A m cc) := (((Below.refl w2.heap.size w2).alloc (Nat.le_refl _) (.cells #[.int .i64 l, .int .i64 s] 144)).cell (p := ⟨b, k, none⟩) hl2).trans ck2
  have HoA := Lib.hid (HO.out.next hbA)
  go_region_law ((refine step_push_lab (by rfl) _ _ (by rfl) (by rfl) HoA.out w2.heap.size l s (by rfl) hZ (by omega) hsA ?_; intro B' cc' w' hown' hgr hblk; have hbx' : BoxN w' b 94 #[v0, v1, .pointer none] := (hgr.block b hbxA.lt (fun e => Hnb.out e.symm)).trans hbxA; have f' := hbx'.free k; have c' := (cell_keepB (a := ⟨b, k, none⟩) (hgr.block b hbxA.lt (fun e => Hnb.out e.symm))).trans ckA))
  all_goals
    go_wp2_with fail
    go_ret
    refine ⟨rfl, _, _, hown', hown'.ne hbx' (by decide), hbx', rfl, fun g hg => ?_, (QKeeps.of_below hbA).grown hgr fun g hg => .inl hg⟩
    rcases hblk with e | e
    · exact .inl (e ▸ hg)
    · rw [e] at hg
      injection hg with hg
      subst hg
      exact .inr hbA.size
end
end Go.Proofs.YtanlmfnhlldkeaaGreatDoor
