/-
  Contract: grant.Revoke.
-/
import Derived.Test.YtdnkknggnhihgaaDoorGrantO
import Derived.Deep.LoopGhost
namespace Go.Proofs.YtdnkknggnhihgaaDoor
open Go.RowKit
set_option maxRecDepth 100000
set_option linter.unusedVariables false

/-- Is it one of those that are revoked? -/
def gP (G : List Int) (fr to : Int) (i : Nat) : Bool := gFr G i == fr && gTo G i == to
/-- Those that stay. -/
def gK (G : List Int) (fr to : Int) : Nat → Bool := kept (gFr G) (gTo G) (gP G fr to)
def rCode (users : Int) (G : List Int) (n : Nat) (fr to : Int) : Nat :=
  if gCode users G n = 0 then if (0 ≤ fr ∧ fr < users) ∧ (0 ≤ to ∧ to < users) then if (List.range n).any (gP G fr to) then 0 else 5 else 1 else gCode users G n

def Why (fr to : Nat → Int) (f : Nat → Bool) (i : Nat) : Prop := fr i = 0 ∨ ∃ j, j < i ∧ f j = false ∧ to j = fr i
/-- What holds of those that have gone. -/
structure GoneInv (fr to : Nat → Int) (P : Nat → Bool) (n : Nat) (f : Nat → Bool) : Prop where
  ha : ∀ i, i < n → P i = true → f i = true
  hb : ∀ i, i < n → f i = true → kept fr to P i = false
/-- In a pass. -/
structure PassInv (fr to : Nat → Int) (P : Nat → Bool) (n : Nat) (f0 : Nat → Bool) (k : Nat) (f : Nat → Bool) (ag : Bool) : Prop where
  inv : GoneInv fr to P n f
  yes : ag = true → left n f < left n f0
  no : ag = false → (∀ i, i < n → f i = f0 i) ∧ ∀ i, i < k → f i = false → Why fr to f i
section
variable {fr to : Nat → Int} {P : Nat → Bool} {n k : Nat} {f f0 : Nat → Bool} {ag : Bool}
theorem GoneInv.start : GoneInv fr to P n (fun i => decide (i < n) && P i) :=
  ⟨fun i hi hp => by simp [hi, hp], fun i hi hp => by
    have hP : P i = true := by simpa [hi] using hp
    cases h : kept fr to P i with
    | false => rfl
    | true => have := ((kept_iff i).1 h).1; rw [hP] at this; cases this⟩
theorem PassInv.start (h : GoneInv fr to P n f) : PassInv fr to P n f 0 f false := ⟨h, (fun e => by cases e), fun _ => ⟨fun _ _ => rfl, fun i hi => by omega⟩⟩
theorem PassInv.skip (h : PassInv fr to P n f0 k f ag) (hw : f k = true ∨ Why fr to f k) : PassInv fr to P n f0 (k + 1) f ag :=
  ⟨h.inv, h.yes, fun e => ⟨(h.no e).1, fun i hi hf => by
    rcases Nat.lt_or_ge i k with h1 | h1
    · exact (h.no e).2 i h1 hf
    · obtain rfl : i = k := by omega
      rcases hw with hw | hw
      · rw [hw] at hf; cases hf
      · exact hw⟩⟩
theorem PassInv.mark (h : PassInv fr to P n f0 k f ag) (hk : k < n) (hf : f k = false) (h0 : fr k ≠ 0) (hn : ∀ j, j < k → f j = false → to j ≠ fr k) : PassInv fr to P n f0 (k + 1) (upd f k) true := by
  have hl := left_upd hk hf
  refine ⟨⟨fun i hi hp => by simp [upd, h.inv.ha i hi hp], fun i hi hp => ?_⟩, fun _ => ?_, fun e => by cases e⟩
  · unfold upd at hp
    rw [Bool.or_eq_true] at hp
    rcases hp with hp | hp
    · exact h.inv.hb i hi hp
    · obtain rfl := beq_iff_eq.1 hp
      exact kept_no hi h.inv.hb h0 hn
  · cases ag with
    | true => have := h.yes rfl; omega
    | false => rw [← left_congr (h.no rfl).1]; exact hl
theorem any_false {g : Nat → Bool} (h : (List.range k).any g = false) : ∀ j, j < k → g j = false := fun j hj => by
  rw [List.any_eq_false] at h
  have := h j (List.mem_range.2 hj)
  cases hg : g j with
  | false => rfl
  | true => exact absurd hg this
theorem any_true {g : Nat → Bool} (h : (List.range k).any g = true) : ∃ j, j < k ∧ g j = true := by
  rw [List.any_eq_true] at h
  obtain ⟨j, hj, hg⟩ := h
  exact ⟨j, List.mem_range.1 hj, hg⟩
theorem any_succ (g : Nat → Bool) (k : Nat) : (List.range (k + 1)).any g = ((List.range k).any g || g k) := by
  rw [List.range_succ, List.any_append]; simp
end
theorem BoxN.new' (w : World) (t : TypeId) (vs : Array Value) (p : Nat) (hp : p = w.heap.size) : BoxN (w.alloc (.cells vs t)) p t vs := by subst hp; exact BoxN.new w t vs

theorem gCount_congr {f g : Nat → Bool} {n : Nat} (h : ∀ i, i < n → f i = g i) : gCount f n = gCount g n := by
  induction n with
  | zero => rfl
  | succ n ih => unfold gCount; rw [ih (fun i hi => h i (by omega)), h n (by omega)]
/-- The cells of a grant. -/
theorem grant_at {w W : World} {A : Option Addr} {G : List Int} {n k : Nat} (h : IntsAt w A G) (hl : n * 3 ≤ G.length) (hk : k < n) (hb : Below w.heap.size w W) :
    ∃ b off, A = some ⟨b, off, none⟩ ∧ b < w.heap.size ∧ W.cell? ⟨b, off + k * 3, none⟩ = some (.int .i64 (gFr G k)) ∧ W.cell? ⟨b, off + k * 3 + 1, none⟩ = some (.int .i64 (gTo G k)) ∧ W.cell? ⟨b, off + k * 3 + 2, none⟩ = some (.int .i64 (gTm G k)) := by
  obtain ⟨b, off, rfl, hc⟩ := h (by intro e; simp [e] at hl; omega)
  have p0 : w.cell? ⟨b, off + k * 3, none⟩ = some (.int .i64 (gFr G k)) := hc (k * 3) _ (get_gI (by omega))
  have p1 : w.cell? ⟨b, off + k * 3 + 1, none⟩ = some (.int .i64 (gTo G k)) := hc (k * 3 + 1) _ (get_gI (by omega))
  have p2 : w.cell? ⟨b, off + k * 3 + 2, none⟩ = some (.int .i64 (gTm G k)) := hc (k * 3 + 2) _ (get_gI (by omega))
  have hbw : b < w.heap.size := block_lt p0
  exact ⟨b, off, rfl, hbw, (hb.cell (p := ⟨b, _, none⟩) hbw).trans p0, (hb.cell (p := ⟨b, _, none⟩) hbw).trans p1, (hb.cell (p := ⟨b, _, none⟩) hbw).trans p2⟩

set_option maxHeartbeats 4000000 in
theorem GRevoke_ok (users : Int) (n : Nat) (G : List Int) (fr to : Int) (A : Option Addr) (c : Nat) (w : World) (h : IntsAt w A G) (hl : n * 3 ≤ G.length) (hn : n < 2 ^ 47) (hcap : n ≤ c) (hz : rCode users G n fr to = 0) :
    Calls Tryd.prog 30 #[.int .i64 users, .slice A n c, .int .i64 fr, .int .i64 to] w fun e w' => (∃ B d, e = .returned (.tuple #[.slice B (gCount (gK G fr to) n) d, .nilIface]) ∧ gCount (gK G fr to) n ≤ d ∧ IntsAt w' B (gFilt G (gK G fr to) n)) ∧ Below w.heap.size w w' := by
  have hz1 : gCode users G n = 0 ∧ ((0 ≤ fr ∧ fr < users) ∧ (0 ≤ to ∧ to < users)) ∧ (List.range n).any (gP G fr to) = true := by
    unfold rCode at hz
    split at hz
    · rename_i h1
      split at hz
      · rename_i h2
        split at hz
        · rename_i h3; exact ⟨h1, h2, h3⟩
        · cases hz
      · cases hz
    · rename_i h1; exact absurd hz h1
  obtain ⟨hz, ⟨hfr, hto⟩, hany⟩ := hz1
  have C0 := GCheck_any users n G A c w h hl hn hcap
  rw [hz, errVal_zero] at C0
  have C0 := Lib.hid C0
  obtain ⟨hu, h40, hall⟩ := gCode_ok hz
  have W1 := Lib.hid (fun V => Within3_is fr 0 (users - 1) true V (by simp; omega))
  have W2 := Lib.hid (fun V => Within3_is to 0 (users - 1) true V (by simp; omega))
  have hmk : ∀ V : World, (Instr.makeSlice 94 (.int .i64 n) (.int .i64 n)).run Tryd.prog V = .ok (.slice (some ⟨V.heap.size, 0, none⟩) n n) (V.alloc (.cells (madeCells #[Value.bool false] n) 4)) := fun V => by
    obtain ⟨ti, hi, hz0, hz1, hz2⟩ := info_parts boolInfo
    have := run_make (P := Tryd.prog) (w := V) 94 4 ti _ Tryd.underlying94 hi hz0 .i64 .i64 n n (by omega) (Int.le_refl _) (by rw [hz2]; omega) (by omega)
    rw [hz1, Int.toNat_natCast, Nat.mul_one] at this
    exact this
  have HP := Lib.hid (fun i => show gP G fr to i = (gFr G i == fr && gTo G i == to) from rfl)
  have Hany := Lib.hid hany
  clear hz hall hfr hto hany
  go_enter Tryd.func30, Tryd.ntmps30
  go_wp2_with fail
  with_reducible refine C0.out.mono ?_
  rintro e w1 ⟨rfl, hb1⟩
  clear C0
  go_wp2_with (go_at_call 55; first | (with_reducible refine (W1.out _).mono ?_; rintro e w' ⟨rfl, rfl⟩) | (with_reducible refine (W2.out _).mono ?_; rintro e w' ⟨rfl, rfl⟩))
  clear W1 W2 hmk
  have hs1 := hb1.size
  have ho1 := own_falses w1 n
  have hb2 := hb1.alloc hs1 (.cells (madeCells #[Value.bool false] n) 4)
  have hs2 : w1.heap.size < (w1.alloc (.cells (madeCells #[Value.bool false] n) 4)).heap.size := by simp
  generalize w1.alloc (.cells (madeCells #[Value.bool false] n) 4) = w2 at *
  generalize w1.heap.size = g at *
  clear hb1
  go_loopw [47, 12] (fun i fd wr => ∃ k : Nat, k ≤ n ∧ i = .int .i64 k ∧ fd = .bool ((List.range k).any (gP G fr to)) ∧ OwnAt wr g 4 (vB n (fun i => decide (i < k) && gP G fr to i)) ∧ Below w.heap.size w wr ∧ w2.heap.size ≤ wr.heap.size) (fun i _ _ => n - (intOf i).toNat)
  case atStart => exact ⟨0, Nat.zero_le _, rfl, rfl, by rw [vB_congr (g := fun _ => false) (fun i hi => by simp)]; exact ho1, hb2, Nat.le_refl _⟩
  case round =>
    clear ho1 hb2
    obtain ⟨k, hk, rfl, rfl, hown, hbr, hsz⟩ := hrel
    have hgr : g < wr.heap.size := by omega
    by_cases hlt : k < n
    · obtain ⟨b, off, rfl, hbw, q0, q1, q2⟩ := grant_at h hl hlt hbr
      have hbr3 : b < wr.heap.size := Nat.lt_of_lt_of_le hbw hbr.size
      have Hs := Lib.hid (any_succ (gP G fr to) k)
      rw [HP.out k] at Hs
      have Hset := Lib.hid hown
      have hcg := hown.cell (vB_at hlt)
      have hfg := hown.free k
      have Hv1 := Lib.hid (fun (hp : gP G fr to k = true) => vB_congr (n := n) (f := upd (fun i => decide (i < k) && gP G fr to i) k) (g := fun i => decide (i < k + 1) && gP G fr to i) (fun i hi => by
        by_cases e : i = k
        · subst e; simp [upd, hp]
        · have h1 : (i == k) = false := by simpa using e
          have h2 : decide (i < k + 1) = decide (i < k) := by simp; omega
          simp only [upd, h1, h2, Bool.or_false]))
      have Hv0 := Lib.hid (fun (hp : gP G fr to k = false) => vB_congr (n := n) (f := fun i => decide (i < k) && gP G fr to i) (g := fun i => decide (i < k + 1) && gP G fr to i) (fun i hi => by
        by_cases e : i = k
        · subst e; simp [hp]
        · have h2 : decide (i < k + 1) = decide (i < k) := by simp; omega
          simp only [h2]))
      rw [HP.out k] at Hv1 Hv0
      generalize gFr G k = x0 at *
      generalize gTo G k = x1 at *
      generalize gTm G k = x2 at *
      generalize (List.range k).any (gP G fr to) = fd at *
      clear hown
      cases e0 : (x0 == fr) with
      | false =>
        rw [e0] at Hs Hv1 Hv0
        have Hv := Lib.hid (Hv0.out rfl)
        clear Hv1 Hv0
        go_wp2_with fail
        refine ⟨⟨k + 1, ?ya, ?yb, ?yc, ?ye, hbr.alloc hbr.size _, ?yf⟩, ?yd⟩
        case ya => omega
        case yb => go_num
        case yc => rw [Hs.out]; simp
        case ye => rw [← Hv.out]; exact Hset.out.all ((Below.refl _ _).alloc (Nat.le_refl _) _)
        case yf => simp; omega
        case yd => simp [intOf]; omega
      | true =>
        cases e1 : (x1 == to) with
        | false =>
          rw [e0, e1] at Hs Hv1 Hv0
          have Hv := Lib.hid (Hv0.out rfl)
          clear Hv1 Hv0
          go_wp2_with fail
          refine ⟨⟨k + 1, ?za, ?zb, ?zc, ?ze, hbr.alloc hbr.size _, ?zf⟩, ?zd⟩
          case za => omega
          case zb => go_num
          case zc => rw [Hs.out]; simp
          case ze => rw [← Hv.out]; exact Hset.out.all ((Below.refl _ _).alloc (Nat.le_refl _) _)
          case zf => simp; omega
          case zd => simp [intOf]; omega
        | true =>
          rw [e0, e1] at Hs Hv1 Hv0
          have Hv := Lib.hid (Hv1.out rfl)
          clear Hv1 Hv0
          go_wp2_with fail
          refine ⟨⟨k + 1, ?wa, ?wb, ?wc, ?we, (hbr.setCell (p := ⟨g, k, none⟩) (show w.heap.size ≤ g from hs1) _).alloc (by simp; exact hbr.size) _, ?wf⟩, ?wd⟩
          case wa => omega
          case wb => go_num
          case wc => rw [Hs.out]; simp
          case we => rw [← Hv.out, ← vB_set]; exact (Hset.out.set (by rw [length_vB]; exact hlt) _).all ((Below.refl _ _).alloc (Nat.le_refl _) _)
          case wf => simp; omega
          case wd => simp [intOf]; omega
    · obtain rfl : k = n := by omega
      have hfd : (List.range k).any (gP G fr to) = true := Hany.out
      rw [hfd]
      have hout0 : GoneInv (gFr G) (gTo G) (gP G fr to) k (fun i => decide (i < k) && gP G fr to i) := GoneInv.start
      have hrow0 : ∃ f, GoneInv (gFr G) (gTo G) (gP G fr to) k f ∧ OwnAt wr g 4 (vB k f) := ⟨_, hout0, hown⟩
      obtain ⟨fS, hinv0, hrow0⟩ := hrow0
      have hleft : ∀ f : Nat → Bool, left k f ≤ k := fun f => gCount_le k
      clear hfd hout0 hown Hany HP
      have hgk : gK G fr to = kept (gFr G) (gTo G) (gP G fr to) := rfl
      generalize gP G fr to = P at *
      obtain ⟨wS, rfl⟩ : ∃ wS : World, wS = wr := ⟨_, rfl⟩
      go_wp2_with fail
      go_loopg [15] (2 * k + 1) (fun m ag wr => ∃ (f : Nat → Bool) (b : Bool), ag = .bool b ∧ 2 * left k f + b.toNat ≤ m ∧ GoneInv (gFr G) (gTo G) P k f ∧ (b = false → ∀ i, i < k → f i = false → Why (gFr G) (gTo G) f i) ∧ OwnAt wr g 4 (vB k f) ∧ Below w.heap.size w wr ∧ w2.heap.size ≤ wr.heap.size)
      case atStart => exact ⟨fS, true, rfl, by have := hleft fS; simp; omega, hinv0, (fun e => by cases e), hrow0, hbr, hsz⟩
      case round =>
        clear hinv0 hrow0 hbr hsz
        obtain ⟨f0, b0, rfl, hm, hinv, hdone, hrow, hbr, hsz⟩ := hrel
        obtain ⟨wO, rfl⟩ : ∃ wO : World, wO = wr := ⟨_, rfl⟩
        cases b0 with
        | true =>
          clear hdone
          go_wp2_with fail
          go_loopw [72, 15] (fun i ag wr => ∃ (j : Nat) (f : Nat → Bool) (b : Bool), j ≤ k ∧ i = .int .i64 j ∧ ag = .bool b ∧ PassInv (gFr G) (gTo G) P k f0 j f b ∧ OwnAt wr g 4 (vB k f) ∧ Below w.heap.size w wr ∧ w2.heap.size ≤ wr.heap.size) (fun i _ _ => k - (intOf i).toNat)
          case atStart => exact ⟨0, f0, false, Nat.zero_le _, rfl, rfl, PassInv.start hinv, hrow, hbr, hsz⟩
          case round =>
            clear hinv hrow hbr hsz
            obtain ⟨j, f, b, hj, rfl, rfl, hp, hrow, hbr, hsz⟩ := hrel
            by_cases hlt : j < k
            · obtain ⟨bb, off, rfl, hbw, q0, q1, q2⟩ := grant_at h hl hlt hbr
              have hbr3 : bb < wr.heap.size := Nat.lt_of_lt_of_le hbw hbr.size
              have hgr : g < wr.heap.size := by omega
              have hcg := hrow.cell (vB_at hlt)
              have hfg := hrow.free j
              have Hrow := Lib.hid hrow
              have hba := (Below.refl wr.heap.size wr).alloc (Nat.le_refl _) (.cells #[.int .i64 (gFr G j), .int .i64 (gTo G j), .int .i64 (gTm G j)] 52)
              have hbra := hbr.trans (hba.mono hbr.size)
              have hsza : w2.heap.size ≤ (wr.alloc (.cells #[.int .i64 (gFr G j), .int .i64 (gTo G j), .int .i64 (gTm G j)] 52)).heap.size := by simp; omega
              clear hrow
              cases hf : f j with
              | true =>
                rw [hf] at hcg
                have Hnx := Lib.hid (hp.skip (.inl hf))
                clear hp hf
                generalize gFr G j = x0 at *
                generalize gTo G j = x1 at *
                generalize gTm G j = x2 at *
                go_wp2_with fail
                refine ⟨⟨j + 1, f, b, ?ya, ?yb, rfl, Hnx.out, Hrow.out.all hba, hbra, hsza⟩, ?yd⟩
                case ya => omega
                case yb => go_num
                case yd => simp [intOf]; omega
              | false =>
                rw [hf] at hcg
                by_cases h0 : gFr G j = 0
                · have Hnx := Lib.hid (hp.skip (.inr (.inl h0)))
                  rw [h0] at q0 hba hbra hsza
                  clear hp hf h0
                  generalize gTo G j = x1 at *
                  generalize gTm G j = x2 at *
                  go_wp2_with fail
                  refine ⟨⟨j + 1, f, b, ?za, ?zb, rfl, Hnx.out, Hrow.out.all hba, hbra, hsza⟩, ?zd⟩
                  case za => omega
                  case zb => go_num
                  case zd => simp [intOf]; omega
                · have d0 : (gFr G j == 0) = false := by simpa using h0
                  obtain ⟨qf, hqf⟩ : ∃ qf : Nat → Bool, ∀ x, qf x = (!f x && (gTo G x == gFr G j)) := ⟨fun x => !f x && (gTo G x == gFr G j), fun x => rfl⟩
                  have Hq := Lib.hid hqf
                  have Hyes := Lib.hid (fun (ha : (List.range j).any qf = true) => hp.skip (.inr (.inr (by
                    obtain ⟨x, hx, hq⟩ := any_true ha
                    rw [hqf x] at hq
                    simp at hq
                    exact ⟨x, hx, hq.1, hq.2⟩))))
                  have Hno := Lib.hid (fun (ha : (List.range j).any qf = false) => hp.mark hlt hf h0 (fun x hx hfx e => by
                    have hq := any_false ha x hx
                    rw [hqf x, hfx, e] at hq
                    simp at hq))
                  clear hp hf h0 hqf
                  generalize gFr G j = x0 at *
                  generalize gTo G j = x1 at *
                  generalize gTm G j = x2 at *
                  go_wp2_with fail
                  have hx := BoxN.new wr 52 #[.int .i64 x0, .int .i64 x1, .int .i64 x2]
                  have hgx : g < (wr.alloc (.cells #[.int .i64 x0, .int .i64 x1, .int .i64 x2] 52)).heap.size := by simp; omega
                  have hra := Hrow.out.all hba
                  have hfa := hra.free j
                  generalize wr.alloc (.cells #[.int .i64 x0, .int .i64 x1, .int .i64 x2] 52) = wa at *
                  generalize wr.heap.size = p at *
                  clear hba q0 q1 q2 hcg hfg Hrow
                  go_loopw [87, 18] (fun i ok wr => ∃ m : Nat, m ≤ j ∧ i = .int .i64 m ∧ ok = .bool ((List.range m).any qf) ∧ Below wa.heap.size wa wr) (fun i _ _ => j - (intOf i).toNat)
                  case atStart => exact ⟨0, Nat.zero_le _, rfl, rfl, Below.refl _ _⟩
                  case round =>
                    obtain ⟨m, hm', rfl, rfl, hbi⟩ := hrel
                    by_cases hmj : m < j
                    · obtain ⟨b2, off2, hA2, hbw2, r0, r1, r2⟩ := grant_at h hl (show m < k by omega) (hbra.trans (hbi.mono hbra.size))
                      cases hA2
                      have hci := (hra.all hbi).cell (vB_at (f := f) (show m < k by omega))
                      have hxi := (hx.all hbi).cell (k := 0) rfl
                      have hmk1 : (m : Int) < k := by omega
                      have Hs := Lib.hid (any_succ qf m)
                      rw [Hq.out m] at Hs
                      clear r0 r2
                      generalize gTo G m = y at *
                      cases hok : (List.range m).any qf with
                      | true =>
                        rw [hok] at Hs
                        go_wp2_with fail
                        go_quiet (fail)
                        go_wp2_with fail
                        refine ⟨⟨m + 1, ?aa, ?ab, ?ac, belowD hbi _⟩, ?ad⟩
                        case aa => omega
                        case ab => go_num
                        case ac => rw [Hs.out]; rfl
                        case ad => simp [intOf]; omega
                      | false =>
                        rw [hok] at Hs
                        cases hfm : f m with
                        | true =>
                          rw [hfm] at Hs hci
                          go_wp2_with fail
                          go_quiet (fail)
                          go_wp2_with fail
                          refine ⟨⟨m + 1, ?ba, ?bb, ?bc, belowD hbi _⟩, ?bd⟩
                          case ba => omega
                          case bb => go_num
                          case bc => rw [Hs.out]; rfl
                          case bd => simp [intOf]; omega
                        | false =>
                          rw [hfm] at Hs hci
                          go_wp2_with fail
                          go_quiet (fail)
                          go_wp2_with fail
                          refine ⟨⟨m + 1, ?ca, ?cb, ?cc, belowD hbi _⟩, ?cd⟩
                          case ca => omega
                          case cb => go_num
                          case cc => rw [Hs.out]; simp
                          case cd => simp [intOf]; omega
                    · obtain rfl : m = j := by omega
                      have hsi := hbi.size
                      have hri := hra.all hbi
                      have hbi2 := hbra.trans (hbi.mono hbra.size)
                      have hfi := hri.free m
                      have hci := hri.cell (vB_at (f := f) hlt)
                      cases hany : (List.range m).any qf with
                      | true =>
                        have Hnx := Lib.hid (Hyes.out hany)
                        go_wp2_with fail
                        refine ⟨⟨m + 1, f, b, ?da, ?db, rfl, Hnx.out, hri, hbi2, ?dc⟩, ?dd⟩
                        case da => omega
                        case db => go_num
                        case dc => omega
                        case dd => simp [intOf]; omega
                      | false =>
                        have Hnx := Lib.hid (Hno.out hany)
                        go_wp2_with fail
                        refine ⟨⟨m + 1, upd f m, true, ?ea, ?eb, rfl, Hnx.out, ?ef, hbi2.setCell (p := ⟨g, m, none⟩) (show w.heap.size ≤ g from hs1) _, ?ec⟩, ?ed⟩
                        case ea => omega
                        case eb => go_num
                        case ef => rw [← vB_set]; exact hri.set (by rw [length_vB]; exact hlt) _
                        case ec => simp; omega
                        case ed => simp [intOf]; omega
            · obtain rfl : j = k := by omega
              go_wp2_with fail
              go_roundg (2 * left j f + b.toNat)
              case measure =>
                cases b with
                | true => have := hp.yes rfl; simp at hm ⊢; omega
                | false => have := left_congr (n := j) (hp.no rfl).1; simp at hm ⊢; omega
              case rel => exact ⟨f, b, rfl, Nat.le_refl _, hp.inv, fun e => (hp.no e).2, hrow, hbr, hsz⟩
        | false =>
          have hk2 := gone_kept hinv.ha hinv.hb (fun i hi hf => hdone rfl i hi hf)
          have Hkp := Lib.hid (fun i (hi : i < k) => show (!f0 i) = kept (gFr G) (gTo G) P i by rw [hk2 i hi]; simp)
          clear hk2 hinv hdone
          have HK := Lib.hid (show gK G fr to = kept (gFr G) (gTo G) P from hgk)
          go_wp2_with fail
          obtain ⟨B, hB⟩ : ∃ B, B = wO.heap.size := ⟨_, rfl⟩
          have hgB : g < B := by omega
          have hBsz : B ≤ wO.heap.size := by omega
          have hwB : w.heap.size ≤ B := by rw [hB]; exact hbr.size
          clear hB
          go_loopw [117, 20] (fun i v wr => ∃ j : Nat, j ≤ k ∧ i = .int .i64 j ∧ OwnG wr B v (gCount (fun i => !f0 i) j) (gFilt G (fun i => !f0 i) j) ∧ OwnAt wr g 4 (vB k f0) ∧ Below w.heap.size w wr ∧ B ≤ wr.heap.size) (fun i _ _ => k - (intOf i).toNat)
          case atStart => exact ⟨0, Nat.zero_le _, rfl, OwnG.nil _ _, hrow, hbr, hBsz⟩
          case round =>
            clear hrow hbr
            obtain ⟨j, hj, rfl, hown, hrow, hbr, hsz⟩ := hrel
            by_cases hlt : j < k
            · obtain ⟨bb, off, rfl, hbw, q0, q1, q2⟩ := grant_at h hl hlt hbr
              have hbr3 : bb < wr.heap.size := Nat.lt_of_lt_of_le hbw hbr.size
              have hgr : g < wr.heap.size := by omega
              have hcg := hrow.cell (vB_at hlt)
              have hba := (Below.refl wr.heap.size wr).alloc (Nat.le_refl _) (.cells #[.int .i64 (gFr G j), .int .i64 (gTo G j), .int .i64 (gTm G j)] 52)
              have hcnt := gCount_le (k := fun i => !f0 i) j
              have Hy := Lib.hid (fun (hf : f0 j = false) => show gCount (fun i => !f0 i) (j + 1) = gCount (fun i => !f0 i) j + 1 ∧ gFilt G (fun i => !f0 i) (j + 1) = gFilt G (fun i => !f0 i) j ++ [gFr G j, gTo G j, gTm G j] by
                show (if (!f0 j) = true then _ else _) = _ ∧ (if (!f0 j) = true then _ else _) = _
                rw [if_pos (by rw [hf]; rfl), if_pos (by rw [hf]; rfl)]
                exact ⟨rfl, rfl⟩)
              have Hn := Lib.hid (fun (hf : f0 j = true) => show gCount (fun i => !f0 i) (j + 1) = gCount (fun i => !f0 i) j ∧ gFilt G (fun i => !f0 i) (j + 1) = gFilt G (fun i => !f0 i) j by
                show (if (!f0 j) = true then _ else _) = _ ∧ (if (!f0 j) = true then _ else _) = _
                rw [if_neg (by rw [hf]; decide), if_neg (by rw [hf]; decide)]
                exact ⟨rfl, rfl⟩)
              have hown2 := hown.next hba
              have hrow2 := hrow.all hba
              generalize gFr G j = x0 at *
              generalize gTo G j = x1 at *
              generalize gTm G j = x2 at *
              cases hf : f0 j with
              | true =>
                rw [hf] at hcg
                have Hx := Lib.hid (Hn.out hf)
                clear Hn Hy hf hown
                go_wp2_with fail
                refine ⟨⟨j + 1, ?fa, ?fb, ?fc, hrow2, hbr.alloc hbr.size _, ?fe⟩, ?fd⟩
                case fa => omega
                case fb => go_num
                case fc => rw [Hx.out.1, Hx.out.2]; exact hown2
                case fe => simp; omega
                case fd => simp [intOf]; omega
              | false =>
                rw [hf] at hcg
                have Hx := Lib.hid (Hy.out hf)
                clear Hn Hy hf hown
                generalize gCount (fun i => !f0 i) j = cnt at *
                generalize gFilt G (fun i => !f0 i) j = xs at *
                go_wp2_with (at_builtin; refine wpList_push_g rfl _ _ rfl rfl (hown2.next ((Below.refl _ _).alloc (Nat.le_refl _) _)) (wr.heap.size + 1) x0 x1 x2 rfl (BoxN.new' _ _ _ _ ?hc0) ?hc1 ?hc2 ?_)
                case hc0 => simp
                case hc1 => omega
                case hc2 => simp; omega
                intro v' w' hown' _ _ hbl
                have hb' := hbl wr (((Below.refl _ _).alloc hsz _).alloc (by simp; omega) _)
                have hszn := hb'.size
                clear hbl hown2 hrow2
                go_wp2_with fail
                refine ⟨⟨j + 1, ?ga, ?gb, ?gc, hrow.below hb' hgB, hbr.trans (hb'.mono hwB), ?ge⟩, ?gd⟩
                case ga => omega
                case gb => go_num
                case gc => rw [Hx.out.1, Hx.out.2]; exact hown'
                case ge => omega
                case gd => simp [intOf]; omega
            · obtain rfl : j = k := by omega
              have HF := Lib.hid (show gFilt G (fun i => !f0 i) j = gFilt G (gK G fr to) j by rw [HK.out]; exact gFilt_congr Hkp.out)
              have HC := Lib.hid (show gCount (fun i => !f0 i) j = gCount (gK G fr to) j by rw [HK.out]; exact gCount_congr Hkp.out)
              obtain ⟨A', d, hv, hd, hi⟩ := hown.form
              clear Hkp HK hown
              subst hv
              go_wp2_with fail
              go_ret2
              exact ⟨⟨A', d, by show Ending.returned (.tuple #[.slice A' (gCount (fun i => !f0 i) j) d, .nilIface]) = _; rw [HC.out], by rw [← HC.out]; exact hd, by rw [← HF.out]; exact hi⟩, hbr⟩
end Go.Proofs.YtdnkknggnhihgaaDoor
