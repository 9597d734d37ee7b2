/-
  An append of one number, that leaves what the row held where it was.
-/
import Derived.Test.YtanlmfnhlldkeaaGreatDoorRowsA
import Derived.Deep.RegionLaw
import Derived.Deep.RegionHeld
namespace Go.Proofs.YtanlmfnhlldkeaaGreatDoor
open Go.RowKit
set_option maxRecDepth 100000
set_option linter.unusedVariables false

theorem wpAnyH_mono {P : Program} {md : Region.Mode} {ops : Array Oper} {Q : Exit → Act → World → Prop} {S S' : World → Prop} (h : ∀ w, S' w → S w) : ∀ (fuel : Nat) (listed : Array Bool) (a : Act) (w : World), wpAnyH P md ops Q S' fuel listed a w → wpAnyH P md ops Q S fuel listed a w
  | 0, _, _, _, hh => hh
  | fuel + 1, _, _, _, hh => ⟨hh.1, fun i hi => wpOp_mono (fun a' w' h' => ⟨h w' h'.1, wpAnyH_mono h fuel _ a' w' h'.2⟩) (hh.2 i hi)⟩
theorem addZ (g j : Nat) : (⟨g, 0, none⟩ : Addr).add j = ⟨g, j, none⟩ := by rw [Addr.add_lit, Nat.zero_add]
theorem run_push_keep (w : World) (ty : TypeId) {base g n c : Nat} {xs : List Int} (hn : xs.length = n) (hown : OwnI w base (.slice (some ⟨g, 0, none⟩) n c) xs) (p : Nat) (k : Int) (hc : w.cell? ⟨p, 0, none⟩ = some (.int .i64 k)) (hs : n < 2 ^ 40) (hbase : base ≤ w.heap.size) :
    ∃ B c' w', (Builtin.append_ #[24, 24] ty #[.slice (some ⟨g, 0, none⟩) n c, .slice (some ⟨p, 0, none⟩) 1 1]).run Tryz.prog w = .ok (.slice B (n + 1) c') w' ∧ IntsAt w' B (xs ++ [k]) ∧ w.grownBy w' (some g) ∧ (∀ j x, xs[j]? = some x → w'.cell? ⟨g, j, none⟩ = some (.int .i64 x)) ∧ ∀ b o, B = some ⟨b, o, none⟩ → base ≤ b := by
  have hown' : w.ownsRow base 3 1 (.slice (some ⟨g, 0, none⟩) n c) xs.length (xs.map (.int .i64)) := hown
  have hcells : CellsAt w (some ⟨p, 0, none⟩) [.int .i64 k] := fun _ => ⟨p, 0, rfl, fun j u hj => by
    match j, hj with
    | 0, hj => simp at hj; subst hj; simpa using hc
    | j + 1, hj => simp at hj⟩
  obtain ⟨v', w', hrun, hp⟩ := run_append_cells w ty eInts hown' (some ⟨p, 0, none⟩) 1 1 [.int .i64 k] hcells rfl (fun u hu => by simp at hu; subst hu; rfl) (by omega) (by omega) hbase
  have hpu := OwnI.pushed hp
  have hgr := hp.grew
  have hrow := hp.own
  obtain ⟨B, c', rfl, hi⟩ := hpu.form
  have hlen : (xs ++ [k]).length = n + 1 := by simp [hn]
  rw [hlen] at hrun
  rw [hlen] at hrow
  refine ⟨B, c', w', hrun, hi, hgr, ?_, fun b o e => (hrow.lt b (by rw [e]; rfl)).1⟩
  obtain ⟨i, z, hii, hz, hsize, hby, hzs⟩ := eInts.info
  have hnews : ∀ (j : Nat) (u : Value), ([.int .i64 k] : List Value)[j]? = some u → w.cell? ((⟨p, 0, none⟩ : Addr).add j) = some u := fun j u hj => by
    match j, hj with
    | 0, hj => simp at hj; subst hj; simpa [Addr.add] using hc
    | j + 1, hj => simp at hj
  have hold : ∀ j u, (xs.map (Value.int .i64))[j]? = some u → w.cell? ((⟨g, 0, none⟩ : Addr).add j) = some u := hown'.cells (g := g) rfl
  intro j x hx
  have hxm : (xs.map (Value.int .i64))[j]? = some (.int .i64 x) := by simp [hx]
  have hjl : j < xs.length := (List.getElem?_eq_some_iff.1 hx).1
  rcases hown'.2 with ⟨hv, _⟩ | ⟨g', cap, cur, hv, hbg, hg, hnc, hcm, hcs, htake⟩
  · cases hv
  · injection hv with ha hm hcap
    injection ha with ha
    injection ha with hgg _ _
    subst hgg hcap
    by_cases hroom : n + 1 ≤ c
    · have hr := run_append_room (P := Tryz.prog) w 24 ty 3 i Tryz.underlying24 hii g n c cur hg ⟨p, 0, none⟩ 1 1 [.int .i64 k] (by rw [hsize]; rfl) hnews (fun u hu => by simp at hu; subst hu; rfl) hroom (by rw [hsize, hcs]; simp; omega)
      rw [hrun] at hr
      injection hr with e1 e2
      injection e1 with e3
      subst e3
      have := hrow.cells (g := g) rfl j (.int .i64 x) (by rw [List.getElem?_append_left (by simpa using hjl)]; exact hxm)
      rw [addZ] at this
      exact this
    · have hr := run_append_grow (P := Tryz.prog) w 24 ty 3 i z Tryz.underlying24 hii hz ⟨g, 0, none⟩ n c (xs.map (Value.int .i64)) (by rw [hsize]; simp [hn]) hold ⟨p, 0, none⟩ 1 1 [.int .i64 k] (by rw [hsize]; rfl) hnews (by omega) (by omega) (by rw [hby]; exact growslice_fits (by omega) (by omega))
      rw [hrun] at hr
      injection hr with e1 e2
      have h0 : w.cell? ⟨g, j, none⟩ = some (.int .i64 x) := by have := hold j _ hxm; rw [addZ] at this; exact this
      rw [e2]
      have hb : Below w.heap.size w (w.drew.alloc (.cells ((xs.map (Value.int .i64)).toArray ++ [Value.int .i64 k].toArray ++ Builtin.zeroCells z.cells (grownCap w (n + 1) c 3 - (n + 1))) 3)) := ((Below.refl _ _).drew).alloc (Nat.le_refl _) _
      exact (hb.cell (p := ⟨g, j, none⟩) (block_lt h0)).trans h0
theorem castL_nth {l : List Nat} {j : Nat} (h : j < l.length) : (castL l)[j]? = some ((l.getD j 0 : Nat) : Int) := by
  unfold castL
  rw [List.getElem?_map, List.getElem?_eq_getElem h, List.getD_eq_getElem?_getD, List.getElem?_eq_getElem h]
  rfl
theorem OwnI.head {w : World} {base n c : Nat} {A : Option Addr} {xs : List Int} (h : OwnI w base (.slice A n c) xs) (hn : 0 < xs.length) : ∃ g, A = some ⟨g, 0, none⟩ ∧ base ≤ g ∧ g < w.heap.size ∧ ∀ j x, xs[j]? = some x → w.cell? ⟨g, j, none⟩ = some (.int .i64 x) := by
  have h' : w.ownsRow base 3 1 (.slice A n c) xs.length (xs.map (.int .i64)) := h
  rcases h'.2 with ⟨_, h0⟩ | ⟨g, cap, cur, hv, hbg, hg, r⟩
  · omega
  · injection hv with ha
    subst ha
    refine ⟨g, rfl, hbg, (Array.getElem?_eq_some_iff.1 hg).1, fun j x hx => ?_⟩
    have := h'.cells (g := g) rfl j (.int .i64 x) (by simp [hx])
    rw [addZ] at this
    exact this
theorem step_push_keep {w : World} {ops : Array Oper} {o : Oper} {a : Act} {K : Act → World → Prop} {Q : Exit → Act → World → Prop} {E : Prop} (hgd : o.guard = none) (s x : Operand)
    (ho : o.op = .call { callee := .builtin .append, args := #[s, x], argTypes := #[24, 24] })
    {base g n c : Nat} {xs : List Int} (hs : a.eval s = .slice (some ⟨g, 0, none⟩) n c) (hn : xs.length = n) (hown : OwnI w base (.slice (some ⟨g, 0, none⟩) n c) xs) (p : Nat) (k : Int) (hx : a.eval x = .slice (some ⟨p, 0, none⟩) 1 1) (hc : w.cell? ⟨p, 0, none⟩ = some (.int .i64 k))
    (hl : n < 2 ^ 40) (hbase : base ≤ w.heap.size)
    (h : ∀ B c' w', IntsAt w' B (xs ++ [k]) → w.grownBy w' (some g) → (∀ j x, xs[j]? = some x → w'.cell? ⟨g, j, none⟩ = some (.int .i64 x)) → (∀ b o, B = some ⟨b, o, none⟩ → base ≤ b) → K (a.put o.dst (.slice B (n + 1) c')) w') : if Region.wanted o (yielded ops a.tmps) = true then Oper.wp Tryz.prog o a w K Q else E := by
  have hw : Region.wanted o (yielded ops a.tmps) = true := by simp [Region.wanted, hgd]
  rw [if_pos hw]
  obtain ⟨B, c', w', hrun, h1, h2, h3, h4⟩ := run_push_keep w o.type hn hown p k hc hl hbase
  have := h B c' w' h1 h2 h3 h4
  unfold Oper.wp
  simp only [execOp, ho, resolve, invoke, builtin, Sem.run_bind, Sem.run_pure, Result.andThen_ok, List.map_toArray, List.map_cons, List.map_nil, hs, hx, hrun]
  exact this
end Go.Proofs.YtanlmfnhlldkeaaGreatDoor
