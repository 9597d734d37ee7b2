/-
  Contracts: quietwingref2.placed.
-/
import Derived.Test.YtdgncngkalgknaaDoorRsC
namespace Go.Proofs.YtdgncngkalgknaaDoor
open Go.RowKit Go.Maps
set_option maxRecDepth 100000
set_option linter.unusedVariables false
/-- A list of nodes of one's own, behind what the world was; S: its blocks. -/
structure OutAt (B : Nat) (S : Nat → Prop) (v : Value) (n : Nat) (o : List Int) (w : World) : Prop where
  own : OwnN w B v n o
  blk : ∀ g, v.ownBlock = some g → S g
  lt : ∀ b, S b → b < w.heap.size
  low : ∀ b, S b → B ≤ b
section
variable {B : Nat} {S S' : Nat → Prop} {v : Value} {n : Nat} {o : List Int} {w w' : World}
theorem OutAt.keep (h : OutAt B S v n o w) (hs : w.heap.size ≤ w'.heap.size) (hb : ∀ b, S b → w'.heap[b]? = w.heap[b]?) : OutAt B S v n o w' := by
  refine ⟨⟨h.own.1, h.own.2.1, ?_⟩, h.blk, fun b hb' => Nat.lt_of_lt_of_le (h.lt b hb') hs, h.low⟩
  rcases h.own.2.2 with h0 | ⟨g, cap, cur, hv, hg, hc, rest⟩
  · exact .inl h0
  · exact .inr ⟨g, cap, cur, hv, hg, (hb g (h.blk g (by rw [hv]; rfl))).trans hc, rest⟩
theorem OutAt.below (h : OutAt B S v n o w) (hb : Below w.heap.size w w') : OutAt B S v n o w' := h.keep hb.size fun b hb' => hb.block b (h.lt b hb')
/-- What a function leaves: the list longer. -/
def OutTo (B : Nat) (S : Nat → Prop) (v : Value) (n : Nat) (o : List Int) (w w' : World) : Prop := ∃ S', OutAt B S' v n o w' ∧ (∀ b, S' b → S b ∨ w.heap.size ≤ b) ∧ QKeeps S w w'
theorem OutTo.trans {w1 w2 : World} {S1 : Nat → Prop} (hQ : QKeeps S w w1) (hS1 : ∀ b, S1 b → S b ∨ w.heap.size ≤ b) (h : OutTo B S1 v n o w1 w2) : OutTo B S v n o w w2 := by
  obtain ⟨S', k, kS, kQ⟩ := h
  exact ⟨S', k, fun b hb => (kS b hb).elim (hS1 b) (fun e => .inr (Nat.le_trans hQ.size e)), hQ.trans kQ hS1⟩
theorem out_end {w1 w2 : World} {v2 : Value} {o2 : List Int} {n2 : Nat} (hQ : QKeeps S w w1) (hS : OutAt B S v n o w) (hBw : B ≤ w.heap.size)
    (ho2 : OwnN w2 B v2 n2 o2) (hbk : v2.ownBlock = v.ownBlock ∨ v2.ownBlock = some w1.heap.size) (hg : w1.grownBy w2 v.ownBlock) : OutTo B S v2 n2 o2 w w2 := by
  have hQ2 := hQ.grown hg (fun g e => .inl (hS.blk g e))
  have hz := hQ.size
  refine ⟨fun b => S b ∨ w.heap.size ≤ b ∧ b < w2.heap.size, ⟨ho2, ?_, ?_, ?_⟩, ?_, hQ2⟩
  · intro g hg'
    rcases hbk with e | e
    · exact .inl (hS.blk g (e ▸ hg'))
    · have := (own_lt ho2.2 hg').2
      rw [e] at hg'
      injection hg' with hg'
      exact .inr ⟨by omega, this⟩
  · rintro b (hb | hb)
    · exact Nat.lt_of_lt_of_le (hS.lt b hb) hQ2.size
    · exact hb.2
  · rintro b (hb | hb)
    · exact hS.low b hb
    · omega
  · rintro b (hb | hb)
    · exact .inl hb
    · exact .inr hb.1
end
/-- append of a node, at the operation. -/
theorem wpList_push_nodeB {w : World} {ops : Array Oper} {rest : List Oper} {oo : Oper} {a : Act} {Q : Exit → Act → World → Prop} (hgd : oo.guard = none) (s x : Operand)
    (ho : oo.op = .call { callee := .builtin .append, args := #[s, x], argTypes := #[23, 23] })
    {base n : Nat} {v : Value} {l : List Int} (hs : a.eval s = v) (hown : OwnN w base v n l) (g : Nat) (k0 k1 k2 k3 k4 : Int) (hx : a.eval x = .slice (some ⟨g, 0, none⟩) 1 1) (hc : BoxN w g 51 #[.int .i64 k0, .int .i64 k1, .int .i64 k2, .int .i64 k3, .int .i64 k4])
    (hn : n < 2 ^ 40) (hbase : base ≤ w.heap.size)
    (h : ∀ B c w', OwnN w' base (.slice B (n + 1) c) (n + 1) (l ++ [k0, k1, k2, k3, k4]) → ((Value.slice B (n + 1) c).ownBlock = v.ownBlock ∨ (Value.slice B (n + 1) c).ownBlock = some w.heap.size) → w.grownBy w' v.ownBlock → wpList Tryd.prog ops Q rest (a.put oo.dst (.slice B (n + 1) c)) w') : wpList Tryd.prog ops Q (oo :: rest) a w := by
  refine wpList_plain hgd fun K' hK' => ?_
  obtain ⟨v', w', hrun, hp⟩ := run_append_cells w oo.type eNodes hown.2 (some ⟨g, 0, none⟩) 1 1 [.int .i64 k0, .int .i64 k1, .int .i64 k2, .int .i64 k3, .int .i64 k4] (fun _ => ⟨g, 0, rfl, fun j u hj => by
    rw [Nat.zero_add]
    exact hc.cell (by rw [← Array.getElem?_toList]; exact hj)⟩) rfl (fun u hu => by simp at hu; rcases hu with rfl | rfl | rfl | rfl | rfl <;> rfl) (by omega) (by omega) hbase
  have hpu : OwnN w' base v' (n + 1) (l ++ [k0, k1, k2, k3, k4]) := ⟨by rw [List.length_append, hown.1]; simp; omega, by
    have := hp.own
    rw [List.map_append]
    exact this⟩
  obtain ⟨B, c, rfl⟩ := hpu.form
  unfold Oper.wp
  simp only [execOp, ho, resolve, invoke, builtin, Sem.run_bind, Sem.run_pure, Result.andThen_ok, List.map_toArray, List.map_cons, List.map_nil, hs, hx, hrun]
  exact hK' _ _ (h B c w' hpu hp.block hp.grew)
def RPlacedOk (P : List Int) (A0 : Option Addr) (n0 c0 B : Nat) (w0 : World) (i cnt : Nat) (lay : Nat → List Int) : Prop := ∀ (w : World) (S : Nat → Prop) (v : Value) (n : Nat) (o : List Int), OutAt B S v n o w → Below B w0 w → n + cnt ≤ 1000 →
  Calls Tryd.prog 72 #[v, .slice A0 n0 c0, .int .i64 i] w fun e w' => ∃ v', e = .returned v' ∧ OutTo B S v' (n + cnt) (o ++ lay n) w w'
section
variable {P : List Int} {A0 : Option Addr} {n0 c0 B : Nat} {w0 : World} {i : Nat}
set_option maxHeartbeats 4000000 in
theorem placed_leaf {k x1 x2 x3 x4 : Int} (hN : NodesAt w0 A0 P n0) (hB : B = w0.heap.size) (hi : i < n0) (h0 : nd P i 0 = k) (h1 : nd P i 1 = x1) (h2 : nd P i 2 = x2) (h3 : nd P i 3 = x3) (h4 : nd P i 4 = x4) (hk : k = 0 ∨ k = 1) : RPlacedOk P A0 n0 c0 B w0 i 1 (RE.leaf k x1 x2 x3 x4).lay := by
  intro w S v n o h hw hcn
  obtain ⟨ba, offa, rfl, p0, p1, p2, p3, p4⟩ := (hN.below (B := 0) (hB ▸ hw)).cells hi
  rw [h0] at p0
  rw [h1] at p1
  rw [h2] at p2
  rw [h3] at p3
  rw [h4] at p4
  have hin := hN.small
  have hBw : B ≤ w.heap.size := hB ▸ hw.size
  have hb1 := (Below.refl w.heap.size w).alloc (Nat.le_refl _) (.cells #[.int .i64 k, .int .i64 x1, .int .i64 x2, .int .i64 x3, .int .i64 x4] 51)
  have H0 := Lib.hid h
  have Hx1 := Lib.hid (BoxN.new w 51 #[.int .i64 k, .int .i64 x1, .int .i64 x2, .int .i64 x3, .int .i64 x4])
  have HQ1 := Lib.hid (QKeeps.of_below (S := S) hb1)
  have CP := Lib.hid (fun W => RParts_any k x1 x2 x3 x4 W)
  rw [show partsL k x2 x3 x4 = [] by rcases hk with rfl | rfl <;> rfl] at CP
  have H1 := Lib.hid (h.below hb1)
  obtain ⟨Av, cv, rfl⟩ := h.own.form
  have y0 := Hx1.out.cell (k := 0) rfl
  have y1 := Hx1.out.cell (k := 1) rfl
  have y2 := Hx1.out.cell (k := 2) rfl
  have y3 := Hx1.out.cell (k := 3) rfl
  have y4 := Hx1.out.cell (k := 4) rfl
  have HBw := Lib.hid hBw
  clear h hw hN hB hb1 h0 h1 h2 h3 h4 hBw
  go_enter Tryd.func72, Tryd.ntmps72
  go_wp2_with fail
  generalize w.alloc (.cells #[.int .i64 k, .int .i64 x1, .int .i64 x2, .int .i64 x3, .int .i64 x4] 51) = w1 at *
  generalize hb1n : w.heap.size = b1 at *
  with_reducible refine (CP.out w1).mono ?_
  rintro e w2 ⟨X, cx, rfl, -, hb2, -⟩
  have hx2 := Hx1.out.all hb2
  have h2 := H1.out.below hb2
  have HQ2 := Lib.hid (HQ1.out.trans (QKeeps.of_below (S := S) hb2) (fun b hb => .inl hb))
  have H2 := Lib.hid h2
  have Hx2 := Lib.hid hx2
  have q0 := hx2.cell (k := 0) rfl
  have q1 := hx2.cell (k := 1) rfl
  have q2 := hx2.cell (k := 2) rfl
  have q3 := hx2.cell (k := 3) rfl
  have q4 := hx2.cell (k := 4) rfl
  clear hx2 h2 hb2 CP
  go_wp2_with fail
  go_loopw [0, 9] (fun s j wr => s = .slice Av n cv ∧ j = .int .i64 0 ∧ wr = w2) (fun _ j _ => 0)
  case atStart => exact ⟨rfl, rfl, rfl⟩
  case round =>
    obtain ⟨rfl, rfl, rfl⟩ := hrel
    have hbA : Below wr.heap.size wr (wr.alloc (.cells #[.int .i64 k, .int .i64 x1, .int .i64 x2, .int .i64 x3, .int .i64 x4] 51)) := (Below.refl _ _).alloc (Nat.le_refl _) _
    have hQA := Lib.hid (HQ2.out.trans (QKeeps.of_below (S := S) hbA) (fun b hb => .inl hb))
    have hoA := Lib.hid ((H2.out.below hbA).own)
    have hgA := Lib.hid (BoxN.new wr 51 #[.int .i64 k, .int .i64 x1, .int .i64 x2, .int .i64 x3, .int .i64 x4])
    have hlow : Hid (B ≤ (wr.alloc (.cells #[.int .i64 k, .int .i64 x1, .int .i64 x2, .int .i64 x3, .int .i64 x4] 51)).heap.size) := Lib.hid (by have := HQ2.out.size; have := HBw.out; have := hbA.size; omega)
    have hn40 : Hid (n < 2 ^ 40) := Lib.hid (by omega)
    clear hbA
    go_wp2_with (at_builtin; refine wpList_push_nodeB rfl _ _ rfl rfl hoA.out wr.heap.size k x1 x2 x3 x4 rfl hgA.out hn40.out hlow.out ?_; intro B' c' w3 ho3 hbk3 hgr3)
    have HT := Lib.hid (out_end hQA.out H0.out (by rw [hb1n]; exact HBw.out) ho3 hbk3 hgr3)
    clear ho3 hbk3 hgr3
    go_wp2_with fail
    go_ret
    exact ⟨_, rfl, HT.out⟩
end
end Go.Proofs.YtdgncngkalgknaaDoor
