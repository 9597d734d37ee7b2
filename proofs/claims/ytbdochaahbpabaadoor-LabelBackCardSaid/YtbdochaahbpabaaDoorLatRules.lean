/-
  The walk of quietwinglaw1.LatticeRules.
-/
import Derived.Test.YtbdochaahbpabaaDoorLatIs
import Derived.Test.YtbdochaahbpabaaDoorFrame
namespace Go.Proofs.YtbdochaahbpabaaDoor
open Go.RowKit
set_option maxRecDepth 100000
set_option linter.unusedVariables false

/-- A bound, said of what is above. -/
structure IsB (r : List Nat) (m : Bool) (a b x : Nat) : Prop where
  lt : x < r.length
  l : (row (upOf m (closed r)) a).testBit x = true
  rr : (row (upOf m (closed r)) b).testBit x = true
  least : ∀ k, (row (upOf m (closed r)) a).testBit k = true → (row (upOf m (closed r)) b).testBit k = true → (row (upOf m (closed r)) x).testBit k = true
theorem IsB.val {r : List Nat} {m : Bool} {a b x : Nat} (h : IsB r m a b x) (h1 : r.length ≤ 12) (h2 : Bd r.length r) (ho : orderB (closed r) = true) (ha : a < r.length) (hb : b < r.length) :
    boundV (castL r) m a b = ((x : Int), 0) := bound_is m h1 h2 ho ha hb h.l h.rr h.least
theorem IsB.comm {r : List Nat} {m : Bool} {a b x : Nat} (h : IsB r m a b x) : IsB r m b a x := ⟨h.lt, h.rr, h.l, fun k p q => h.least k q p⟩
theorem boundI_comm (m : Bool) (c : List Nat) (a b : Nat) : boundI m c a b = boundI m c b a := by unfold boundI; rw [Nat.and_comm]
theorem isB_of {r : List Nat} (h1 : r.length ≤ 12) (h2 : Bd r.length r) (ho : orderB (closed r) = true) {m : Bool} {a b : Nat} (ha : a < r.length) (hb : b < r.length) (h : 0 ≤ boundI m (closed r) a b) : ∃ x, IsB r m a b x := by
  obtain ⟨_, x, _, hx, h3, h4, h5⟩ := boundV_ok (v := boundI m (closed r) a b) h1 h2 ha hb (by rw [boundV_in m h1 h2 ho ha hb, if_pos h])
  exact ⟨x, hx, h3, h4, h5⟩
theorem lat_ex {r : List Nat} (h1 : r.length ≤ 12) (h2 : Bd r.length r) (ho : orderB (closed r) = true) (hl : isLat (closed r) = true) (m : Bool) {a b : Nat} (ha : a < r.length) (hb : b < r.length) : ∃ x, IsB r m a b x := by
  have hcn := length_closed r
  have key : ∀ a b, a < r.length → b < a → ∃ x, IsB r m a b x := fun a b ha hb => by
    unfold isLat at hl
    rw [Bool.and_eq_true, List.all_eq_true] at hl
    have h := hl.2 a (List.mem_range.2 (by omega))
    rw [List.all_eq_true] at h
    have h := h b (List.mem_range.2 hb)
    unfold both at h
    rw [Bool.and_eq_true, decide_eq_true_eq, decide_eq_true_eq] at h
    refine isB_of h1 h2 ho ha (by omega) ?_
    cases m
    · exact h.1
    · exact h.2
  rcases Nat.lt_trichotomy a b with h | h | h
  · obtain ⟨x, hx⟩ := key b a hb h; exact ⟨x, hx.comm⟩
  · subst h; exact ⟨a, ha, up_self m a ha, up_self m a ha, fun k h _ => h⟩
  · exact key a b ha h

/-- The rules. -/
theorem rules {r : List Nat} (h1 : r.length ≤ 12) (h2 : Bd r.length r) (ho : orderB (closed r) = true) (hl : isLat (closed r) = true) {a b c : Nat} (ha : a < r.length) (hb : b < r.length) (hc : c < r.length) :
    ∃ x m p q : Nat, boundV (castL r) false a b = ((x : Int), 0) ∧ boundV (castL r) false b a = ((x : Int), 0) ∧ boundV (castL r) true a b = ((m : Int), 0) ∧ boundV (castL r) true b a = ((m : Int), 0) ∧
      boundV (castL r) false x c = ((p : Int), 0) ∧ boundV (castL r) false b c = ((q : Int), 0) ∧ boundV (castL r) false a q = ((p : Int), 0) ∧
      boundV (castL r) true a x = ((a : Int), 0) ∧ boundV (castL r) false a m = ((a : Int), 0) ∧ boundV (castL r) false a a = ((a : Int), 0) := by
  obtain ⟨x, hx⟩ := lat_ex h1 h2 ho hl false ha hb
  obtain ⟨m, hm⟩ := lat_ex h1 h2 ho hl true ha hb
  obtain ⟨p, hp⟩ := lat_ex h1 h2 ho hl false hx.lt hc
  obtain ⟨q, hq⟩ := lat_ex h1 h2 ho hl false hb hc
  have tr := fun i j k (hi : i < r.length) (hj : j < r.length) (hk : k < r.length) => up_trans (r := r) false i j k hi hj hk
  have lt : ∀ i k, (row (upOf false (closed r)) i).testBit k = true → k < r.length := fun i k h => by
    have hbu : Bd r.length (upOf false (closed r)) := by
      have := bd_upOf false (c := closed r) (by rw [length_closed]; exact closed_lt r h2)
      rwa [length_closed] at this
    exact bit_of (hbu i) h
  refine ⟨x, m, p, q, hx.val h1 h2 ho ha hb, hx.comm.val h1 h2 ho hb ha, hm.val h1 h2 ho ha hb, hm.comm.val h1 h2 ho hb ha, hp.val h1 h2 ho hx.lt hc, hq.val h1 h2 ho hb hc, ?_, ?_, ?_, ?_⟩
  · refine IsB.val ⟨hp.lt, tr a x p ha hx.lt hp.lt hx.l hp.l, hq.least p (tr b x p hb hx.lt hp.lt hx.rr hp.l) hp.rr, fun k h3 h4 => ?_⟩ h1 h2 ho ha hq.lt
    exact hp.least k (hx.least k h3 (tr b q k hb hq.lt (lt _ _ h4) hq.l h4)) (tr c q k hc hq.lt (lt _ _ h4) hq.rr h4)
  · refine bound_left true h1 h2 ho ha hx.lt ?_
    rw [upOf_bit true hx.lt ha]; exact hx.l
  · refine bound_left false h1 h2 ho ha hm.lt ?_
    have := hm.l
    rw [upOf_bit true ha hm.lt] at this; exact this
  · exact bound_left false h1 h2 ho ha ha (up_self false a ha)

/-- A contract, said of all worlds that lie over one. -/
theorem over {P : Program} {f : FuncId} {args : Array Value} {w V : World} {v : Value} (hV : Below w.heap.size w V) (h : Calls P f args V fun e w' => e = .returned v ∧ Below V.heap.size V w') :
    Calls P f args V fun e w' => e = .returned v ∧ Below w.heap.size w w' := h.mono fun _ _ ⟨he, hb⟩ => ⟨he, hV.trans (hb.mono hV.size)⟩

theorem Is_err (l : List Int) (A : Option Addr) (c : Nat) (w : World) (h : IntsAt w A l) (hl : l.length < 2 ^ 60) (hT : Tab w) (hne : latCode l ≠ 0) :
    Calls Tryd.prog 31 #[.slice A l.length c] w fun e w' => e = .returned (.tuple #[.bool false, .iface 72 (.int .i64 (latCode l))]) ∧ Below w.heap.size w w' := by
  have Ho := Lib.hid (lorder_err l A c w h hl hT hne)
  clear h hl hne hT
  generalize l.length = n at *
  generalize latCode l = m at *
  go_enter Tryd.func31, Tryd.ntmps31
  go_wp2_with fail
  refine Ho.out.mono ?_
  rintro e w1 ⟨rfl, hb⟩
  go_wp2_with fail
  go_ret2
  exact ⟨rfl, hb⟩

set_option maxHeartbeats 4000000 in
theorem LatticeRules_ok (r : List Nat) (h1 : r.length ≤ 12) (h2 : Bd r.length r) (ho : orderB (closed r) = true) (hl : isLat (closed r) = true) (A : Option Addr) (cp : Nat) (a b c : Nat) (w : World) (h : IntsAt w A (castL r)) (hT : Tab w)
    (ha : a < r.length) (hb : b < r.length) (hc : c < r.length) :
    Calls Tryd.prog 9 #[.slice A r.length cp, .int .i64 a, .int .i64 b, .int .i64 c] w fun e w' => e = .returned (.bool true) ∧ Below w.heap.size w w' := by
  obtain ⟨x, m, p, q, e1, e2, e3, e4, e5, e6, e7, e8, e9, e10⟩ := rules h1 h2 ho hl ha hb hc
  have hIs := Is_ok r h1 h2 ho A cp
  rw [hl] at hIs
  have J := fun (m : Bool) (i j k : Nat) (he : boundV (castL r) m i j = ((k : Int), 0)) (V : World) (hV : Below w.heap.size w V) => show Calls Tryd.prog (if m then 30 else 29) #[.slice A r.length cp, .int .i64 i, .int .i64 j] V fun e w' => e = .returned (.tuple #[.int .i64 k, .nilIface]) ∧ Below w.heap.size w w' from by
    cases m
    · have := Join_any (castL r) (by rw [length_castL]; omega) A cp i j V (h.below hV) (hT.next hV)
      rw [he, length_castL, errVal, if_pos rfl] at this
      exact over hV this
    · have := Meet_any (castL r) (by rw [length_castL]; omega) A cp i j V (h.below hV) (hT.next hV)
      rw [he, length_castL, errVal, if_pos rfl] at this
      exact over hV this
  have C0 := Lib.hid (fun (V : World) (hV : Below w.heap.size w V) => over hV (latticeFact_any V (hT.next hV)))
  have CI := Lib.hid (fun (V : World) (hV : Below w.heap.size w V) => over hV (hIs V (h.below hV) (hT.next hV)))
  have C1 := Lib.hid (J false a b x e1)
  have C2 := Lib.hid (J false b a x e2)
  have C3 := Lib.hid (J true a b m e3)
  have C4 := Lib.hid (J true b a m e4)
  have C5 := Lib.hid (J false x c p e5)
  have C6 := Lib.hid (J false b c q e6)
  have C7 := Lib.hid (J false a q p e7)
  have C8 := Lib.hid (J true a x a e8)
  have C9 := Lib.hid (J false a m a e9)
  have C10 := Lib.hid (J false a a a e10)
  simp only [Bool.false_eq_true, if_false, if_true] at C1 C2 C3 C4 C5 C6 C7 C8 C9 C10
  have hbl : Below w.heap.size w w := Below.refl _ _
  have g1 : decide ((a : Int) < 0) = false := by simp
  have g2 : decide ((b : Int) < 0) = false := by simp
  have g3 : decide ((c : Int) < 0) = false := by simp
  have g4 : decide ((a : Int) ≥ (r.length : Int)) = false := by simp; omega
  have g5 : decide ((b : Int) ≥ (r.length : Int)) = false := by simp; omega
  have g6 : decide ((c : Int) ≥ (r.length : Int)) = false := by simp; omega
  clear J hIs e1 e2 e3 e4 e5 e6 e7 e8 e9 e10 h hT hl ho h2
  generalize r.length = n at *
  go_enter Tryd.func9, Tryd.ntmps9
  go_wp2_with (first
    | (go_at_call 28; with_reducible refine (C0.out _ (by assumption)).mono ?_; rintro e w' ⟨rfl, hbk⟩)
    | (go_at_call 31; with_reducible refine (CI.out _ (by assumption)).mono ?_; rintro e w' ⟨rfl, hbk⟩)
    | (go_at_call 29; with_reducible refine (C1.out _ (by assumption)).mono ?_; rintro e w' ⟨rfl, hbk⟩)
    | (go_at_call 29; with_reducible refine (C2.out _ (by assumption)).mono ?_; rintro e w' ⟨rfl, hbk⟩)
    | (go_at_call 29; with_reducible refine (C5.out _ (by assumption)).mono ?_; rintro e w' ⟨rfl, hbk⟩)
    | (go_at_call 29; with_reducible refine (C6.out _ (by assumption)).mono ?_; rintro e w' ⟨rfl, hbk⟩)
    | (go_at_call 29; with_reducible refine (C7.out _ (by assumption)).mono ?_; rintro e w' ⟨rfl, hbk⟩)
    | (go_at_call 29; with_reducible refine (C9.out _ (by assumption)).mono ?_; rintro e w' ⟨rfl, hbk⟩)
    | (go_at_call 29; with_reducible refine (C10.out _ (by assumption)).mono ?_; rintro e w' ⟨rfl, hbk⟩)
    | (go_at_call 30; with_reducible refine (C3.out _ (by assumption)).mono ?_; rintro e w' ⟨rfl, hbk⟩)
    | (go_at_call 30; with_reducible refine (C4.out _ (by assumption)).mono ?_; rintro e w' ⟨rfl, hbk⟩)
    | (go_at_call 30; with_reducible refine (C8.out _ (by assumption)).mono ?_; rintro e w' ⟨rfl, hbk⟩))
  go_ret
  exact ⟨rfl, by assumption⟩

set_option maxHeartbeats 2000000 in
theorem LatticeRules_out (l : List Int) (hn : l.length < 2 ^ 60) (is : Bool) (k : Nat) (A : Option Addr) (cp : Nat) (a b c : Int) (w : World) (h : IntsAt w A l) (hT : Tab w)
    (hI : ∀ V, Below w.heap.size w V → Calls Tryd.prog 31 #[.slice A l.length cp] V fun e w' => e = .returned (.tuple #[.bool is, errVal k]) ∧ Below V.heap.size V w')
    (hout : k = 0 → is = true → ¬ ((0 ≤ a ∧ a < l.length) ∧ (0 ≤ b ∧ b < l.length) ∧ 0 ≤ c ∧ c < l.length)) :
    Calls Tryd.prog 9 #[.slice A l.length cp, .int .i64 a, .int .i64 b, .int .i64 c] w fun e w' => e = .returned (.bool true) ∧ Below w.heap.size w w' := by
  have C0 := Lib.hid (fun (V : World) (hV : Below w.heap.size w V) => over hV (latticeFact_any V (hT.next hV)))
  have ci := fun (V : World) (hV : Below w.heap.size w V) => over hV (hI V hV)
  have hbl : Below w.heap.size w w := Below.refl _ _
  clear h hT hI
  generalize l.length = n at *
  by_cases hk : k = 0
  · subst hk
    rw [errVal, if_pos rfl] at ci
    cases is with
    | true =>
      have Ho := Lib.hid (hout rfl rfl)
      have CI := Lib.hid ci
      clear ci hout
      go_enter Tryd.func9, Tryd.ntmps9
      go_wp2_with (first
        | (go_at_call 28; with_reducible refine (C0.out _ (by assumption)).mono ?_; rintro e w' ⟨rfl, hbk⟩)
        | (go_at_call 31; with_reducible refine (CI.out _ (by assumption)).mono ?_; rintro e w' ⟨rfl, hbk⟩))
      all_goals first
        | (go_ret; exact ⟨rfl, by assumption⟩)
        | (exfalso; have := Ho.out; omega)
    | false =>
      have CI := Lib.hid ci
      clear ci hout
      go_enter Tryd.func9, Tryd.ntmps9
      go_wp2_with (first
        | (go_at_call 28; with_reducible refine (C0.out _ (by assumption)).mono ?_; rintro e w' ⟨rfl, hbk⟩)
        | (go_at_call 31; with_reducible refine (CI.out _ (by assumption)).mono ?_; rintro e w' ⟨rfl, hbk⟩))
      go_ret
      exact ⟨rfl, by assumption⟩
  · rw [errVal, if_neg hk] at ci
    have CI := Lib.hid ci
    clear ci hout hk
    go_enter Tryd.func9, Tryd.ntmps9
    go_wp2_with (first
      | (go_at_call 28; with_reducible refine (C0.out _ (by assumption)).mono ?_; rintro e w' ⟨rfl, hbk⟩)
      | (go_at_call 31; with_reducible refine (CI.out _ (by assumption)).mono ?_; rintro e w' ⟨rfl, hbk⟩))
    go_ret
    exact ⟨rfl, by assumption⟩

theorem LatticeRules_walk (l : List Int) (A : Option Addr) (cp : Nat) {W : World} (h : IntsAt W A l) (hn : l.length < 2 ^ 47) (hI : ∀ x ∈ l, I64 x) (a : Int) (wa : I64 a) (b : Int) (wb : I64 b) (c : Int) (wc : I64 c) (w : World) (hw : w = W) (hT : Tab W) :
    Calls Tryd.prog 9 #[.slice A l.length cp, .int .i64 a, .int .i64 b, .int .i64 c] w fun e w' => e = .returned (.bool true) ∧ Below w.heap.size w w' := by
  subst hw
  by_cases hc : latCode l = 0
  · obtain ⟨r, rfl, h1, h2, ho⟩ := latCode_ok hc
    by_cases hr : isLat (closed r) = true ∧ ((0 ≤ a ∧ a < r.length) ∧ (0 ≤ b ∧ b < r.length) ∧ 0 ≤ c ∧ c < r.length)
    · obtain ⟨an, rfl⟩ := Int.eq_ofNat_of_zero_le hr.2.1.1
      obtain ⟨bn, rfl⟩ := Int.eq_ofNat_of_zero_le hr.2.2.1.1
      obtain ⟨cn, rfl⟩ := Int.eq_ofNat_of_zero_le hr.2.2.2.1
      rw [length_castL]
      exact LatticeRules_ok r h1 h2 ho hr.1 A cp an bn cn w h hT (by omega) (by omega) (by omega)
    · refine LatticeRules_out (castL r) (by omega) (isLat (closed r)) 0 A cp a b c w h hT (fun V hV => ?_) (fun _ hi => ?_)
      · rw [length_castL]; exact Is_ok r h1 h2 ho A cp V (h.below hV) (hT.next hV)
      · rw [length_castL]; exact fun h => hr ⟨hi, h⟩
  · refine LatticeRules_out l (by omega) false (latCode l) A cp a b c w h hT (fun V hV => ?_) (fun h => absurd h hc)
    rw [errVal, if_neg hc]
    exact Is_err l A cp V (h.below hV) (by omega) (hT.next hV) hc
end Go.Proofs.YtbdochaahbpabaaDoor
