/-
  Contract: lattice.turned.
-/
import Derived.Test.YtndeplakkhfmlaaDoorLeast
import Derived.Test.YtndeplakkhfmlaaDoorOrderLaw
import Derived.Shelf.RegionOpen
namespace Go.Proofs.YtndeplakkhfmlaaDoor
open Go.RowKit
attribute [local go_sem] Oper.semAt_some
attribute [local simp, local go_sem] wide_fn
set_option maxRecDepth 100000

/-- What turned has gathered ahead of thing j of row i. -/
structure TuInv (u : List Nat) (n i : Nat) (p : Nat → Prop) (D : List Nat) : Prop where
  len : D.length = n
  bd : Bd n D
  bit : ∀ a b, a < n → b < n → ((row D b).testBit a = true ↔ (a < i ∧ (row u a).testBit b = true) ∨ (a = i ∧ p b))
theorem TuInv.start (u : List Nat) (n : Nat) : TuInv u n 0 (fun _ => False) (List.replicate n 0) where
  len := by simp
  bd i := by rw [row_replicate]; exact Nat.two_pow_pos n
  bit a b _ _ := by rw [row_replicate]; simp
theorem TuInv.set {u D : List Nat} {n i j : Nat} {pre : List Nat} (h : TuInv u n i (· ∈ pre) D) (hi : i < n) (hj : j < n) : TuInv u n i (· ∈ pre ++ [j]) (D.set j (row D j ||| 2 ^ i)) where
  len := by simp [h.len]
  bd := h.bd.set _ _ (Nat.or_lt_two_pow (h.bd j) (Nat.pow_lt_pow_right (by decide) hi))
  bit a b ha hb := by
    rw [row_set _ _ _ _ (by rw [h.len]; exact hj)]
    simp only [List.mem_append, List.mem_singleton]
    split
    · rename_i e
      subst e
      rw [tb_or, tb_pow, Bool.or_eq_true, decide_eq_true_eq, h.bit a j ha hj]
      constructor
      · rintro ((h1 | ⟨h1, h2⟩) | h1)
        · exact .inl h1
        · exact .inr ⟨h1, .inl h2⟩
        · exact .inr ⟨h1.symm, .inr rfl⟩
      · rintro (h1 | ⟨h1, _⟩)
        · exact .inl (.inl h1)
        · exact .inr h1.symm
    · rename_i e
      rw [h.bit a b ha hb]
      constructor
      · rintro (h1 | ⟨h1, h2⟩)
        · exact .inl h1
        · exact .inr ⟨h1, .inl h2⟩
      · rintro (h1 | ⟨h1, h2 | h2⟩)
        · exact .inl h1
        · exact .inr ⟨h1, h2⟩
        · exact absurd h2.symm e
theorem TuInv.open_ {u D : List Nat} {n i : Nat} (h : TuInv u n i (fun _ => False) D) : TuInv u n i (· ∈ ([] : List Nat)) D where
  len := h.len
  bd := h.bd
  bit a b ha hb := by rw [h.bit a b ha hb]; simp
theorem TuInv.next {u D : List Nat} {n i : Nat} (hu : row u i < 2 ^ 64) (h : TuInv u n i (· ∈ bitsOf (row u i)) D) : TuInv u n (i + 1) (fun _ => False) D where
  len := h.len
  bd := h.bd
  bit a b ha hb := by
    rw [h.bit a b ha hb, mem_bitsOf hu]
    constructor
    · rintro (⟨h1, h2⟩ | ⟨rfl, h2⟩)
      · exact .inl ⟨by omega, h2⟩
      · exact .inl ⟨by omega, h2⟩
    · rintro (⟨h1, h2⟩ | ⟨_, h2⟩)
      · rcases Nat.lt_or_ge a i with h3 | h3
        · exact .inl ⟨h3, h2⟩
        · obtain rfl : a = i := by omega
          exact .inr ⟨rfl, h2⟩
      · exact h2.elim
theorem TuInv.fin {u D : List Nat} {n : Nat} {p : Nat → Prop} (h : TuInv u n n p D) : Turned n u D := fun a b ha hb => by
  rw [h.bit a b ha hb]
  constructor
  · rintro (h1 | ⟨h1, _⟩)
    · exact h1.2
    · omega
  · exact fun h1 => .inl ⟨ha, h1⟩

set_option maxHeartbeats 4000000 in
theorem turned_any (u : List Nat) (n : Nat) (hu : u.length = n) (hlen : n ≤ 12) (hb : Bd n u) (A : Option Addr) (c : Nat) (w : World) (h : IntsAt w A (castL u)) (hT : Tab w) :
    Calls Tryd.prog 59 #[.slice A n c] w fun e w' => ∃ D B c', e = .returned (.slice B n c') ∧ IntsAt w' B (castL D) ∧ D.length = n ∧ Bd n D ∧ Turned n u D ∧ Below w.heap.size w w' := by
  refine (callsIn_wide (n := 8)).1 ?_
  have hg := hT.lt
  have Hb := Lib.hid hb
  have Hu := Lib.hid hu
  clear hb hu
  obtain ⟨ti, hi, hz0, hz1, hz2⟩ := info_parts intInfo
  refine callsIn_of_wp_marks Tryd.func59 rfl trivial ?_ rfl
  simp only [Tryd.ntmps59, List.size_toArray, List.length_cons, List.length_nil, Nat.reduceAdd, Nat.reduceSub, Array.replicate_succ, Array.replicate_zero, List.push_toArray, List.append_toArray, List.nil_append, List.cons_append]
  gi_wp2_with (gi_at_make; refine wpListIn_make_full _ rfl _ _ 29 rfl 0 3 ti _ 1 Tryd.underlying29 hi hz0 hz1 _ _ _ _ n rfl rfl rfl rfl (by rw [hz2]; omega) (by unfold maxLen; omega) (Nat.zero_le _) ?_; intro w1 hown hgr)
  have ho1 := made_ints hown
  have hbl1 : Below w.heap.size w w1 := (Below.refl _ w).grown hgr (Nat.le_refl _) (by simp)
  have hlt1 := ho1.lt
  have hbl2 : Below w.heap.size w (w1.alloc (.cells #[.slice (some ⟨w.heap.size, 0, none⟩) n n] 29)) := hbl1.alloc (by omega) _
  have ho2 : OwnAt (w1.alloc (.cells #[.slice (some ⟨w.heap.size, 0, none⟩) n n] 29)) w.heap.size _ _ := ho1.alloc _
  have hb3 := BoxN.new w1 29 #[.slice (some ⟨w.heap.size, 0, none⟩) n n]
  clear hown hgr ho1 hbl1
  generalize hgx : w1.heap.size = p at *
  generalize w1.alloc (.cells #[.slice (some ⟨w.heap.size, 0, none⟩) n n] 29) = w2 at *
  clear hgx
  refine wpIn_loop_marks (Ds := []) [12, 13, 4, 14, 15, 16, 17, 18, 28, 11]
    (fun v Ds W => ∃ k : Nat, v 11 = .int .i64 k ∧ k ≤ n ∧ BoxN W p 29 #[.slice (some ⟨w.heap.size, 0, none⟩) n n] ∧ Below w.heap.size w W ∧ MarksAt w.heap.size W Ds ∧ ∃ D, OwnAt W w.heap.size 3 ((castL D).map (Value.int .i64)) ∧ Hid (TuInv u n k (fun _ => False) D))
    (fun v _ => n - (intOf (v 11)).toNat) ⟨0, rfl, by omega, hb3, hbl2, MarksAt.nil, _, ho2, TuInv.start _ _⟩ ?_
  rintro us Ds W hus ⟨k, hk, hkn, hp3, hblW, hM, D, hoD, Hinv⟩
  obtain ⟨u0, us0, rfl, hus0⟩ := cons_of_len hus
  obtain ⟨u1, us1, rfl, hus1⟩ := cons_of_len hus0
  obtain ⟨u2, us2, rfl, hus2⟩ := cons_of_len hus1
  obtain ⟨u3, us3, rfl, hus3⟩ := cons_of_len hus2
  obtain ⟨u4, us4, rfl, hus4⟩ := cons_of_len hus3
  obtain ⟨u5, us5, rfl, hus5⟩ := cons_of_len hus4
  obtain ⟨u6, us6, rfl, hus6⟩ := cons_of_len hus5
  obtain ⟨u7, us7, rfl, hus7⟩ := cons_of_len hus6
  obtain ⟨u8, us8, rfl, hus8⟩ := cons_of_len hus7
  obtain ⟨u9, us9, rfl, hus9⟩ := cons_of_len hus8
  obtain rfl : us9 = [] := List.length_eq_zero_iff.1 hus9
  clear hus hus0 hus1 hus2 hus3 hus4 hus5 hus6 hus7 hus8 hus9
  simp only [patchL, List.set_cons_succ, List.set_cons_zero, valL, List.getD_cons_succ, List.getD_cons_zero] at hk ⊢
  subst hk
  clear hb3 hbl2 ho2
  have hTW : Tab W := hT.next hblW
  have hltp := hp3.lt
  have hcp : W.cell? ⟨p, 0, none⟩ = some (.slice (some ⟨w.heap.size, 0, none⟩) n n) := hp3.cell rfl
  rcases Nat.lt_or_ge k n with hkn' | hkn'
  · obtain ⟨b, off, rfl, hcx⟩ := (h.below hblW).row (k := k) (by rw [Hu.out]; exact hkn')
    have hltb : b < W.heap.size := block_lt hcx
    have hrk : row u k < 2 ^ 12 := Nat.lt_of_lt_of_le (Hb.out k) (Nat.pow_le_pow_right (by decide) hlen)
    gi_wp2_with fail
    refine (callsIn_wide.2 (Bits_any (row u k) _)).mono ?_
    rintro e w4 ⟨rfl, rfl⟩
    gi_wp2_with fail
    have hW2 : Below W.heap.size W ((W.alloc (.cells #[.int .i64 k] 3)).alloc (.cells #[.int .i64 (row u k)] 3)) := ((Below.refl _ W).alloc (Nat.le_refl _) _).alloc (by simp) _
    have hTX : Tab ((W.alloc (.cells #[.int .i64 k] 3)).alloc (.cells #[.int .i64 (row u k)] 3)) := Tab.next hTW hW2
    have hbk : BoxN ((W.alloc (.cells #[.int .i64 k] 3)).alloc (.cells #[.int .i64 (row u k)] 3)) W.heap.size 3 #[.int .i64 k] := (BoxN.new W _ _).alloc _
    have hbs : BoxN ((W.alloc (.cells #[.int .i64 k] 3)).alloc (.cells #[.int .i64 (row u k)] 3)) (W.heap.size + 1) 3 #[.int .i64 (row u k)] := by
      have := BoxN.new (W.alloc (.cells #[.int .i64 k] 3)) 3 #[.int .i64 (row u k)]
      simpa using this
    have hXp := hp3.below hW2 hp3.lt
    have hblX := hblW.trans (hW2.mono hblW.size)
    have hMX := hM.below hW2
    have hMlt : ∀ D ∈ Ds, D < W.heap.size := fun D hD => hM.lt hD
    have hoX := hoD.below hW2 hoD.lt
    have hXsz : ((W.alloc (.cells #[.int .i64 k] 3)).alloc (.cells #[.int .i64 (row u k)] 3)).heap.size = W.heap.size + 1 + 1 := by simp
    clear hW2 hcx hTW hp3 hM hoD hcp
    generalize ((W.alloc (.cells #[.int .i64 k] 3)).alloc (.cells #[.int .i64 (row u k)] 3)) = X at *
    refine wp_bits1 (by decide) 5 (B := W.heap.size + 1) (s := row u k) rfl (hbs.cell rfl) (by omega) hTX
      (fun pre Y => BoxN Y p 29 #[.slice (some ⟨w.heap.size, 0, none⟩) n n] ∧ BoxN Y W.heap.size 3 #[.int .i64 k] ∧ Below w.heap.size w Y ∧ MarksAt w.heap.size Y Ds ∧ ∃ D, OwnAt Y w.heap.size 3 ((castL D).map (Value.int .i64)) ∧ Hid (TuInv u n k (· ∈ pre) D))
      (fun _ _ _ => False)
      (fun _ _ _ _ hs hg hr => ⟨hs.1.own hg (fun r e => (hr r e).2), hs.2.1.own hg (fun r e => (hr r e).2), below_own hs.2.2.1 (Nat.le_refl _) (by have := hblX.size; omega) hg hr, hs.2.2.2.1.own (fun D hD => by have := hMlt D hD; omega) hg hr, by
        obtain ⟨D, h1, h2⟩ := hs.2.2.2.2
        exact ⟨D, h1.own hg (fun r e => (hr r e).2), h2⟩⟩)
      (fun _ _ _ _ _ hs _ _ => hs)
      ⟨hXp, hbk, hblX, hMX, D, hoX, Hinv.out.open_⟩ ?assign ?body ?done ?stop
    case assign =>
      intro l x Y K hK
      gi_wp2
      exact hK
    case body =>
      clear hbs hXp hbk hblX hMX hoX Hinv hTX
      rintro l pre x Y hx hlen' ⟨hYp, hYk, hblY, hMY, E, hoY, Hinv⟩
      have hxn : x < n := bit_below (Hb.out k) hx
      have hEl := Hinv.out.len
      have hcp : Y.cell? ⟨p, 0, none⟩ = some (.slice (some ⟨w.heap.size, 0, none⟩) n n) := hYp.cell rfl
      have hck : Y.cell? ⟨W.heap.size, 0, none⟩ = some (.int .i64 k) := hYk.cell rfl
      have hcE : Y.cell? ⟨w.heap.size, x, none⟩ = some (.int .i64 (row E x : Nat)) := hoY.cell (get_cast_val E x (by omega))
      have hfE := hoY.free x
      have hl1 := hYp.lt
      have hl2 := hYk.lt
      have hl3 := hoY.lt
      have hex : row E x < 2 ^ 12 := Nat.lt_of_lt_of_le (Hinv.out.bd x) (Nat.pow_le_pow_right (by decide) hlen)
      have hp2 : 2 ^ k < 2 ^ 62 := Nat.pow_lt_pow_right (by decide) (by omega)
      have hbits : bits .or .i64 ((row E x : Nat) : Int) (IntKind.i64.wrap (2 ^ k)) = ((row E x ||| 2 ^ k : Nat) : Int) := by
        have h0 := two_pow_lt k (by omega)
        have h1 : (0 : Int) < 2 ^ k := Int.pow_pos (by decide)
        have e : IntKind.i64.wrap (2 ^ k) = ((2 ^ k : Nat) : Int) := by rw [IntKind.wrap_i64]; push_cast; omega
        rw [e]; exact bits_or_nat _ _ (by omega) hp2
      have Hset := Lib.hid (Hinv.out.set hkn' hxn)
      obtain ⟨v, hv⟩ : ∃ v, row E x ||| 2 ^ k = v := ⟨_, rfl⟩
      rw [hv] at hbits Hset
      have hmix : Tryd.prog.follows .mixedOrders = true := by kernel_rfl
      clear hx Hinv hv hp2
      generalize row E x = y at *
      simp only [List.setIfInBounds_toArray, List.set_cons_succ, List.set_cons_zero]
      gi_wp2_with fail
      gi_region_with_o fail
      all_goals
        gi_wp2_with fail
        exact ⟨((KeepsOthers.drew _).trans (KeepsOthers.setCell _ _ _)).from _, ((Below.refl _ _).drew).setCell (by simp; omega) _, hYp.drew.other (by simp; omega) _, hYk.drew.other (by simp; omega) _, (hblY.drew).setCell (Nat.le_refl _) _, (hMY.keep (KeepsOthers.drew _)).setCell _ _, E.set x v, by rw [map_set_cast]; exact (hoY.drew).set (by simp [castL]; omega) _, Hset⟩
    case done =>
      rintro D' Z hD ⟨hZp, hZk, hblZ, hMZ, E, hoZ, Hz⟩ hK
      gi_wp2_with fail
      exact ⟨_, D' :: Ds, rfl, rfl, ⟨k + 1, by simp [valL], by omega, hZp, hblZ, hMZ.cons (by have := hblX.size; omega) (fun h => by have := hMlt D' h; omega) hK, E, hoZ, TuInv.next (by omega) Hz.out⟩, by simp [valL, intOf]; omega⟩
    case stop =>
      intros
      rename_i h _
      exact h.elim
  · obtain rfl : k = n := by omega
    gi_wp2_with fail
    refine leaves_marks (B := w.heap.size) Ds W hM fun w' hsc hb' _ => ?_
    exact ⟨_, results_tmp rfl _ _ _, D, some ⟨w.heap.size, 0, none⟩, k, rfl, hoD.ints.keep (fun a _ => hsc.cell a), Hinv.out.len, Hinv.out.bd, Hinv.out.fin, hblW.trans hb'⟩
end Go.Proofs.YtndeplakkhfmlaaDoor
