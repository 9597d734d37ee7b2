/-
  A trail by its lengths; Ask, by lengths.
  The text of a label; a new builder.
  Plain laws: which texts are labels.
  Plain laws: a session at the desk.
-/
import Derived.Test.YtanlmfnhlldkeaaGreatDoorTrsA
import Derived.Test.YtanlmfnhlldkeaaGreatDoorLoopA
import Derived.Test.YtanlmfnhlldkeaaGreatDoorBuilder
import Derived.Test.YtanlmfnhlldkeaaGreatDoorBaseA
namespace Go.Proofs.YtanlmfnhlldkeaaGreatDoor
open Go.RowKit
set_option maxRecDepth 100000
set_option linter.unusedVariables false

theorem TrailAt.lower {lo lo' b m : Nat} {own : Nat → Prop} {v : Value} {A : LA} {U F : List Int} {T : TS} {w : World} (h : TrailAt lo own w b m v A U F T) (hl : lo' ≤ lo) : TrailAt lo' own w b m v A U F T :=
  ⟨h.trl, h.bell, h.ob, h.om, h.ov, h.oa, h.nb, h.nv, h.lt, fun k hk => Nat.le_trans hl (h.low k hk)⟩
/-- The lengths of a trail's sets. -/
structure TLen (m n : Nat) (U F : List Int) (T : TS) : Prop where
  inv : TInv U F T
  re : T.S.Re.length = m
  ho : T.S.Ho.length = n
theorem TLen.ask {m n : Nat} {U F : List Int} {T : TS} (h : TLen m n U F T) (k u f t : Int) : TLen m n U F (tAsk U F T k u f t).1 := by
  refine ⟨h.inv.ask k u f t, ?_, ?_⟩
  · unfold tAsk
    split
    · exact h.re
    · split
      · exact h.re
      · exact (lAsk_len k u f t).1.trans h.re
  · unfold tAsk
    split
    · exact h.ho
    · split
      · exact h.ho
      · exact (lAsk_len k u f t).2.trans h.ho
theorem TLen.start {m n : Nat} {U F : List Int} (hm : m ≤ 8) (hn : n ≤ 8) : TLen m n U F (tStart m n) := ⟨TInv.start hm hn, by simp [tStart, lStart], by simp [tStart, lStart, length_pows]⟩
/-- The labels of a pair of lists that are right. -/
structure LabsOk (m n : Nat) (U F : List Int) : Prop where
  cu : labsCode U m 8 = 0
  cf : labsCode F n 8 = 0
  lU : U.length = m * 2
  lF : F.length = n * 2
theorem LabsOk.m8 {m n : Nat} {U F : List Int} (h : LabsOk m n U F) : m ≤ 8 := (labsCode_ok h.cu).1
theorem LabsOk.n8 {m n : Nat} {U F : List Int} (h : LabsOk m n U F) : n ≤ 8 := (labsCode_ok h.cf).1
/-- Ask, by lengths. -/
theorem TAsk_len {W0 w : World} {b p m n : Nat} {own : Nat → Prop} {v : Value} {A : LA} {U F : List Int} {T : TS} (hL : LabsOk m n U F) (hG : Glob W0) (hbW : Below W0.heap.size W0 w) (h : TrailAt W0.heap.size own w b p v A U F T) (hI : TLen m n U F T) (k u f t : Int) :
    Calls Tryz.prog 91 #[.pointer (some ⟨b, 0, none⟩), .agg #[.int .i64 k, .int .i64 u, .int .i64 f, .int .i64 t]] w (AskPost W0.heap.size own w b p A U F (tAsk U F T k u f t).1 (tAsk U F T k u f t).2) :=
  TAsk_any hG hbW h hI.inv (fun i hi => (labsCode_ok hL.cu).2 i (by rw [hI.re] at hi; exact hi)) (fun i hi => (labsCode_ok hL.cf).2 i (by rw [hI.ho] at hi; exact hi)) k u f t
end Go.Proofs.YtanlmfnhlldkeaaGreatDoor

namespace Go.Proofs.YtanlmfnhlldkeaaGreatDoor
open Go.RowKit Go.Shelf
set_option maxRecDepth 100000

/-- The text of a label. -/
def labText (v s : Nat) : List UInt8 := UInt8.ofNat (48 + v) :: (bitsOf s).map fun i => UInt8.ofNat (97 + i)
end Go.Proofs.YtanlmfnhlldkeaaGreatDoor

namespace Go.Proofs.YtanlmfnhlldkeaaGreatDoor
set_option linter.unusedVariables false

/-- The letters of a label, from place lo on; what is had so far. -/
def pstep : List UInt8 → Nat → Nat → Option Nat
  | [], set, _ => some set
  | c :: t, set, lo => if 97 + lo ≤ c.toNat ∧ c.toNat ≤ 104 then pstep t (set ||| 2 ^ (c.toNat - 97)) (c.toNat - 97 + 1) else none
def parseV : List UInt8 → Option (Nat × Nat)
  | [] => none
  | c :: t => if 48 ≤ c.toNat ∧ c.toNat ≤ 55 then (pstep t 0 0).map fun s => (c.toNat - 48, s) else none
theorem parseV_cons (c : UInt8) (t : List UInt8) : parseV (c :: t) = if 48 ≤ c.toNat ∧ c.toNat ≤ 55 then (pstep t 0 0).map fun s => (c.toNat - 48, s) else none := rfl
def letters (s : Nat) : List UInt8 := (bitsOf s).map fun i => UInt8.ofNat (97 + i)
theorem pstep_letters : ∀ s, s < 256 → pstep (letters s) 0 0 = some s := by decide +kernel
def bitsFrom (lo r : Nat) : List Nat := (List.range' lo (64 - lo)).filter fun i => r.testBit i
theorem bitsFrom_zero (r : Nat) : bitsFrom 0 r = bitsOf r := by unfold bitsFrom bitsOf; rw [List.range_eq_range']
theorem bitsFrom_step {lo r : Nat} (h : lo < 64) : bitsFrom lo r = if r.testBit lo then lo :: bitsFrom (lo + 1) r else bitsFrom (lo + 1) r := by
  unfold bitsFrom
  rw [show 64 - lo = (64 - (lo + 1)) + 1 by omega, List.range'_succ, List.filter_cons]
theorem bitsFrom_none {lo r : Nat} (h : ∀ i, lo ≤ i → r.testBit i = false) : bitsFrom lo r = [] := by
  unfold bitsFrom
  rw [List.filter_eq_nil_iff]
  intro i hi
  rw [h i (by rw [List.mem_range'_1] at hi; exact hi.1)]; simp
theorem bitsFrom_skip {lo m r : Nat} (hlm : lo ≤ m) (hm : m ≤ 64) (h : ∀ i, lo ≤ i → i < m → r.testBit i = false) : bitsFrom lo r = bitsFrom m r := by
  induction m with
  | zero => obtain rfl : lo = 0 := by omega
            rfl
  | succ m ih =>
    rcases Nat.lt_or_ge m lo with h1 | h1
    · obtain rfl : lo = m + 1 := by omega
      rfl
    · rw [ih h1 (by omega) (fun i a b => h i a (by omega)), bitsFrom_step (by omega), h m h1 (by omega)]; simp
theorem pstep_sound : ∀ (t : List UInt8) (set lo r : Nat), pstep t set lo = some r → set < 2 ^ lo → lo ≤ 8 →
    r < 256 ∧ (∀ i, i < lo → r.testBit i = set.testBit i) ∧ (bitsFrom lo r).map (fun i => UInt8.ofNat (97 + i)) = t
  | [], set, lo, r, h, hs, hlo => by
    simp only [pstep, Option.some.injEq] at h
    subst h
    have hz : ∀ i, lo ≤ i → set.testBit i = false := fun i hi => Nat.testBit_lt_two_pow (Nat.lt_of_lt_of_le hs (Nat.pow_le_pow_right (by decide) hi))
    refine ⟨Nat.lt_of_lt_of_le hs (Nat.pow_le_pow_right (by decide) hlo : 2 ^ lo ≤ 2 ^ 8), fun _ _ => rfl, by rw [bitsFrom_none hz]; rfl⟩
  | c :: t, set, lo, r, h, hs, hlo => by
    unfold pstep at h
    split at h
    · rename_i hc
      have hlt : set ||| 2 ^ (c.toNat - 97) < 2 ^ (c.toNat - 97 + 1) := by
        refine Nat.or_lt_two_pow ?_ (Nat.pow_lt_pow_right (by decide) (by omega))
        exact Nat.lt_of_lt_of_le hs (Nat.pow_le_pow_right (by decide) (by omega))
      obtain ⟨h1, h2, h3⟩ := pstep_sound t _ _ r h hlt (by omega)
      have bit : ∀ i, i < c.toNat - 97 → r.testBit i = set.testBit i := fun i hi => by
        rw [h2 i (by omega), tb_or, tb_pow]; simp; omega
      refine ⟨h1, fun i hi => bit i (by omega), ?_⟩
      have hon : r.testBit (c.toNat - 97) = true := by rw [h2 _ (by omega), tb_or, tb_pow]; simp
      rw [bitsFrom_skip (m := c.toNat - 97) (by omega) (by omega) (fun i a b => by
        rw [bit i b]; exact Nat.testBit_lt_two_pow (Nat.lt_of_lt_of_le hs (Nat.pow_le_pow_right (by decide) a)))]
      rw [bitsFrom_step (by omega), if_pos hon, List.map_cons, h3]
      congr 1
      rw [show 97 + (c.toNat - 97) = c.toNat by omega]
      exact UInt8.ofNat_toNat
    · cases h
theorem parseV_text {v s : Nat} (hv : v ≤ 7) (hs : s < 256) : parseV (labText v s) = some (v, s) := by
  have h : (UInt8.ofNat (48 + v)).toNat = 48 + v := by rw [UInt8.toNat_ofNat']; omega
  unfold labText
  rw [parseV_cons, h, if_pos ⟨by omega, by omega⟩]
  have := pstep_letters s hs
  unfold letters at this
  rw [this]
  simp
theorem parseV_sound {l : List UInt8} {v s : Nat} (h : parseV l = some (v, s)) : v ≤ 7 ∧ s < 256 ∧ labText v s = l := by
  cases l with
  | nil => cases h
  | cons c t =>
    rw [parseV_cons] at h
    split at h
    · rename_i hc
      cases hp : pstep t 0 0 with
      | none => rw [hp] at h; cases h
      | some r =>
        rw [hp] at h
        simp only [Option.map_some, Option.some.injEq, Prod.mk.injEq] at h
        obtain ⟨rfl, rfl⟩ := h
        obtain ⟨h1, _, h3⟩ := pstep_sound t 0 0 r hp (by decide) (by decide)
        refine ⟨by omega, h1, ?_⟩
        unfold labText
        rw [← bitsFrom_zero, h3, show 48 + (c.toNat - 48) = c.toNat by omega]
        congr 1
        exact UInt8.ofNat_toNat
    · cases h
end Go.Proofs.YtanlmfnhlldkeaaGreatDoor

namespace Go.Proofs.YtanlmfnhlldkeaaGreatDoor
open Go.RowKit
set_option linter.unusedVariables false

/-- The names of what is wrong. -/
def nameE : Nat → List UInt8
  | 0 => [79, 75]
  | 1 => [69, 114, 114, 82, 97, 110, 103, 101]
  | 2 => [69, 114, 114, 83, 121, 110, 116, 97, 120]
  | 3 => [69, 114, 114, 83, 104, 97, 112, 101]
  | 4 => [69, 114, 114, 70, 117, 108, 108]
  | 5 => [69, 114, 114, 78, 111, 110, 101]
  | 6 => [69, 114, 114, 67, 108, 97, 115, 104]
  | 7 => [69, 114, 114, 68, 101, 110, 105, 101, 100]
  | 8 => [69, 114, 114, 83, 116, 97, 116, 101]
  | _ => [69, 114, 114, 110, 111]
def okL : List UInt8 := [111, 107]
def badL : List UInt8 := [98, 97, 100]
def stateL : List UInt8 := [69, 114, 114, 83, 116, 97, 116, 101]
def fullL : List UInt8 := [69, 114, 114, 70, 117, 108, 108]
def foundL : List UInt8 := [102, 111, 117, 110, 100, 32]
def toldE (k : Nat) : List UInt8 := if k = 0 then okL else nameE k
/-- A set of numbers as a text. -/
def setV (name : List UInt8) (n : Nat) : List UInt8 := name ++ (bitsOf n).flatMap fun (i : Nat) => 32 :: Lib.itoa (i : Int)
/-- Words as numbers of at most four digits. -/
def numD (x : List UInt8) : Option Nat := match numV x with
  | none => none
  | some n => if 4 < x.length then none else some n
def numsD : List (List UInt8) → Option (List Nat)
  | [] => some []
  | x :: r => match numD x with
    | none => none
    | some n => (numsD r).map (n :: ·)
/-- A session. -/
structure DS where
  U : List Int
  F : List Int
  T : Option TS
def dNew : DS := ⟨[], [], none⟩
def DS.m (D : DS) : Nat := D.U.length / 2
def DS.n (D : DS) : Nat := D.F.length / 2
def dAddU (D : DS) (s : List UInt8) : DS × List UInt8 := match parseV s with
  | none => (D, nameE 2)
  | some (l, x) => if D.T.isSome = true then (D, stateL) else if D.m = 8 then (D, fullL) else ({ D with U := D.U ++ [(l : Int), (x : Int)] }, okL)
def dAddF (D : DS) (s : List UInt8) : DS × List UInt8 := match parseV s with
  | none => (D, nameE 2)
  | some (l, x) => if D.T.isSome = true then (D, stateL) else if D.n = 8 then (D, fullL) else ({ D with F := D.F ++ [(l : Int), (x : Int)] }, okL)
def labCode (D : DS) : Nat := if labsCode D.U D.m 8 ≠ 0 then labsCode D.U D.m 8 else labsCode D.F D.n 8
def dStart (D : DS) : DS × List UInt8 :=
  if D.T.isSome = true then (D, stateL) else if labCode D = 0 then ({ D with T := some (tStart D.m D.n) }, okL) else (D, nameE (labCode D))
def dCrash (D : DS) (T : TS) (k : Nat) : DS × List UInt8 :=
  if (tOpen D.U D.F (tStart D.m D.n) (T.log.take k)).2.2 = 0 then ({ D with T := some (tOpen D.U D.F (tStart D.m D.n) (T.log.take k)).1 }, foundL ++ Lib.itoa ((tOpen D.U D.F (tStart D.m D.n) (T.log.take k)).2.1 : Int)) else (D, nameE (tOpen D.U D.F (tStart D.m D.n) (T.log.take k)).2.2)
def vRead : List UInt8 := [114, 101, 97, 100]
def vWrite : List UInt8 := [119, 114, 105, 116, 101]
def vDrop : List UInt8 := [100, 114, 111, 112]
def vCopy : List UInt8 := [99, 111, 112, 121]
def vReads : List UInt8 := [114, 101, 97, 100, 115]
def vWrites : List UInt8 := [119, 114, 105, 116, 101, 115]
def vHolds : List UInt8 := [104, 111, 108, 100, 115]
def vCrash : List UInt8 := [99, 114, 97, 115, 104]
def vUser : List UInt8 := [117, 115, 101, 114]
def vFile : List UInt8 := [102, 105, 108, 101]
def vStart : List UInt8 := [115, 116, 97, 114, 116]
def kindV (s : List UInt8) : Option Nat := if s = vRead then some 0 else if s = vWrite then some 1 else if s = vDrop then some 2 else if s = vCopy then some 3 else none
def doesV (s : List UInt8) : Option Nat := if s = vReads then some 0 else if s = vWrites then some 1 else if s = vHolds then some 2 else if s = vCrash then some 3 else none
def needD (k : Nat) : Nat := if k = 3 then 3 else 2
def dAsk (D : DS) (T : TS) (k : Nat) (l : List Nat) : DS × List UInt8 :=
  ({ D with T := some (tAsk D.U D.F T k (l.getD 0 0 : Nat) (l.getD 1 0 : Nat) (l.getD 2 0 : Nat)).1 }, toldE (tAsk D.U D.F T k (l.getD 0 0 : Nat) (l.getD 1 0 : Nat) (l.getD 2 0 : Nat)).2)
def dDo (D : DS) (T : TS) (v : List UInt8) (j : Nat) (x : Nat) : DS × List UInt8 := match j with
  | 0 => (D, setV v (told T.S.Re (x : Nat)))
  | 1 => (D, setV v (told T.S.Wr (x : Nat)))
  | 2 => (D, setV v (told T.S.Ho (x : Nat)))
  | _ => dCrash D T x
def dAct (D : DS) (v : List UInt8) (l : List Nat) : Option (DS × List UInt8) := match kindV v with
  | some k => if l.length ≠ needD k then none else match D.T with
    | none => some (D, stateL)
    | some T => some (dAsk D T k l)
  | none => if l.length ≠ 1 then none else match doesV v with
    | none => none
    | some j => match D.T with
      | none => some (D, stateL)
      | some T => some (dDo D T v j (l.getD 0 0))
def dRest (D : DS) (w : List (List UInt8)) : DS × List UInt8 := match numsD (w.drop 1) with
  | none => (D, badL)
  | some l => match dAct D (w.getD 0 []) l with
    | none => (D, badL)
    | some r => r
def dLine (D : DS) (s : List UInt8) : DS × List UInt8 :=
  if (cutL 32 s).length = 2 ∧ (cutL 32 s).getD 0 [] = vUser then dAddU D ((cutL 32 s).getD 1 [])
  else if (cutL 32 s).length = 2 ∧ (cutL 32 s).getD 0 [] = vFile then dAddF D ((cutL 32 s).getD 1 [])
  else if s = vStart then dStart D
  else dRest D (cutL 32 s)
def dLines : DS → List (List UInt8) → DS × List UInt8
  | D, [] => (D, [])
  | D, s :: r => ((dLines (dLine D s).1 r).1, (dLine D s).2 ++ 10 :: (dLines (dLine D s).1 r).2)
/-- The lines of a text, without their ends. -/
def lineL (t : List UInt8) : List (List UInt8) := (linesL t).map fun l => Lib.trimSuffix l [10]
def longL : List UInt8 := [116, 111, 111, 32, 108, 111, 110, 103, 10]
def dRun (t : List UInt8) : List UInt8 := if 3000 < t.length then longL else (dLines dNew (lineL t)).2
theorem dLines_append : ∀ (a b : List (List UInt8)) (D : DS), dLines D (a ++ b) = ((dLines (dLines D a).1 b).1, (dLines D a).2 ++ (dLines (dLines D a).1 b).2)
  | [], b, D => rfl
  | s :: r, b, D => by rw [List.cons_append, dLines, dLines_append r b, dLines]; simp [List.append_assoc]
/-- What a trail in a session is: some asks behind a start. -/
def Reach (U F : List Int) (T0 T : TS) : Prop := ∃ K n, T = tRun U F K T0 n
theorem tRun_congr {U F K K' : List Int} {T : TS} : ∀ n, (∀ i, i < n * 4 → gI K i = gI K' i) → tRun U F K T n = tRun U F K' T n
  | 0, _ => rfl
  | n + 1, h => by
    rw [tRun_succ, tRun_succ, tRun_congr n fun i hi => h i (by omega)]
    unfold askAt
    rw [h (n * 4) (by omega), h (n * 4 + 1) (by omega), h (n * 4 + 2) (by omega), h (n * 4 + 3) (by omega)]
theorem Reach.ask {U F : List Int} {T0 T : TS} (h : Reach U F T0 T) (k u f t : Int) : Reach U F T0 (tAsk U F T k u f t).1 := by
  obtain ⟨K, n, rfl⟩ := h
  have e : ∀ i, i < n * 4 → gI K i = gI ((List.range (n * 4)).map (gI K) ++ [k, u, f, t]) i := fun i hi => by
    unfold gI
    rw [List.getD_eq_getElem?_getD, List.getD_eq_getElem?_getD, List.getElem?_append_left (by simpa using hi), List.getElem?_map, List.getElem?_range hi]
    rfl
  have g : ∀ j v, j < 4 → [k, u, f, t][j]? = some v → gI ((List.range (n * 4)).map (gI K) ++ [k, u, f, t]) (n * 4 + j) = v := fun j v hj hv => by
    unfold gI
    rw [List.getD_eq_getElem?_getD, List.getElem?_append_right (by simp), List.length_map, List.length_range, Nat.add_sub_cancel_left, hv]
    rfl
  refine ⟨(List.range (n * 4)).map (gI K) ++ [k, u, f, t], n + 1, ?_⟩
  rw [tRun_succ, ← tRun_congr n e]
  unfold askAt
  have g0 := g 0 k (by decide) rfl
  rw [Nat.add_zero] at g0
  rw [g0, g 1 u (by decide) rfl, g 2 f (by decide) rfl, g 3 t (by decide) rfl]
theorem many_any {U F K : List Int} {T : TS} (h : TInv U F T) (hm0 : T.many = 0) : ∀ (n c : Nat), c ≤ (tRun U F K T n).many → ∃ j, j ≤ n ∧ (tRun U F K T j).many = c
  | 0, c, hc => ⟨0, Nat.le_refl _, by have : (tRun U F K T 0).many = 0 := hm0; omega⟩
  | n + 1, c, hc => by
    have hs : (tRun U F K T (n + 1)).many ≤ (tRun U F K T n).many + 1 := by
      rw [tRun_succ]
      rcases askAt_cases (K := K) (h.run (K := K) n) n with ⟨_, e⟩ | ⟨_, e⟩ | ⟨_, _, _, e, _⟩
      · rw [e]; exact Nat.le_succ _
      · rw [e]; exact Nat.le_succ _
      · rw [e]; exact Nat.le_refl _
    rcases Nat.lt_or_ge (tRun U F K T n).many c with hlt | hge
    · exact ⟨n + 1, Nat.le_refl _, by omega⟩
    · obtain ⟨j, hj, he⟩ := many_any h hm0 n c hge
      exact ⟨j, by omega, he⟩
theorem Reach.torn {m n : Nat} {U F : List Int} {T : TS} (hm : m ≤ 8) (hn : n ≤ 8) (h : Reach U F (tStart m n) T) (k : Nat) : ∃ T' c, tOpen U F (tStart m n) (T.log.take k) = (T', c, 0) ∧ Reach U F (tStart m n) T' ∧ (T.log.length ≤ k → T' = T) ∧ c ≤ T.log.length := by
  obtain ⟨K, q, rfl⟩ := h
  have h0 : TInv U F (tStart m n) := TInv.start hm hn
  obtain ⟨hc, hall⟩ := open_torn (K := K) h0 rfl rfl q k
  obtain ⟨j, hj, hmj⟩ := many_any (K := K) h0 rfl q _ hc
  refine ⟨_, _, hall j hj hmj, ⟨K, j, rfl⟩, fun hk => ?_, ?_⟩
  · have hw := open_whole (K := K) h0 rfl rfl q
    rw [List.take_of_length_le hk] at hall
    have := hall j hj (by rw [hmj, List.take_of_length_le hk])
    rw [this] at hw
    exact (Prod.mk.inj hw).1
  · rw [hmj]; exact Nat.le_trans List.count_le_length (by rw [List.length_take]; exact Nat.min_le_right ..)
theorem parse_ok {s : List UInt8} {l x : Nat} (h : parseV s = some (l, x)) : l ≤ 7 ∧ x < 256 := ⟨(parseV_sound h).1, (parseV_sound h).2.1⟩
/-- What holds in a session. -/
structure DOk (D : DS) : Prop where
  lU : D.U.length = D.m * 2
  lF : D.F.length = D.n * 2
  m8 : D.m ≤ 8
  n8 : D.n ≤ 8
  oU : ∀ i, i < D.m → labOk (gI D.U (i * 2)) (gI D.U (i * 2 + 1))
  oF : ∀ i, i < D.n → labOk (gI D.F (i * 2)) (gI D.F (i * 2 + 1))
  tr : ∀ T, D.T = some T → Reach D.U D.F (tStart D.m D.n) T
theorem DOk.new : DOk dNew := ⟨rfl, rfl, Nat.zero_le _, Nat.zero_le _, fun i hi => absurd hi (Nat.not_lt_zero _), fun i hi => absurd hi (Nat.not_lt_zero _), fun T h => by cases h⟩
theorem labsCode_zero {L : List Int} {n : Nat} (hn : n ≤ 8) (h : ∀ i, i < n → labOk (gI L (i * 2)) (gI L (i * 2 + 1))) : labsCode L n 8 = 0 := by
  unfold labsCode
  rw [if_neg (by omega), if_pos]
  rw [List.all_eq_true]
  intro i hi
  exact decide_eq_true (h i (List.mem_range.1 hi))
theorem DOk.code {D : DS} (h : DOk D) : labCode D = 0 := by
  unfold labCode
  rw [labsCode_zero h.m8 h.oU, labsCode_zero h.n8 h.oF]
  rfl
theorem DOk.labs {D : DS} (h : DOk D) : LabsOk D.m D.n D.U D.F := ⟨labsCode_zero h.m8 h.oU, labsCode_zero h.n8 h.oF, h.lU, h.lF⟩
theorem push_ok {L : List Int} {l x : Nat} (h : ∀ i, i < L.length / 2 → labOk (gI L (i * 2)) (gI L (i * 2 + 1))) (hl : L.length = L.length / 2 * 2) (hx : l ≤ 7 ∧ x < 256) :
    ∀ i, i < (L ++ [(l : Int), (x : Int)]).length / 2 → labOk (gI (L ++ [(l : Int), (x : Int)]) (i * 2)) (gI (L ++ [(l : Int), (x : Int)]) (i * 2 + 1)) := by
  intro i hi
  rw [List.length_append, show [(l : Int), (x : Int)].length = 2 from rfl] at hi
  unfold gI at h ⊢
  rcases Nat.lt_or_ge i (L.length / 2) with hlt | hge
  · have := h i hlt
    rw [List.getD_eq_getElem?_getD, List.getD_eq_getElem?_getD] at this ⊢
    rw [List.getElem?_append_left (by omega), List.getElem?_append_left (by omega)]
    exact this
  · obtain rfl : i = L.length / 2 := by omega
    rw [← hl, List.getD_eq_getElem?_getD, List.getD_eq_getElem?_getD, List.getElem?_append_right (by omega), List.getElem?_append_right (by omega), Nat.sub_self, Nat.add_sub_cancel_left]
    show labOk (l : Int) (x : Int)
    unfold labOk
    omega
theorem DOk.addU {D : DS} (h : DOk D) (s : List UInt8) : DOk (dAddU D s).1 := by
  unfold dAddU
  split
  · exact h
  · rename_i l x hp
    split
    · exact h
    · rename_i hT
      split
      · exact h
      · rename_i h8
        have hl := h.lU
        have h8' := h.m8
        unfold DS.m at hl h8 h8'
        refine ⟨?_, h.lF, ?_, h.n8, push_ok h.oU hl (parse_ok hp), h.oF, fun T e => ?_⟩
        · unfold DS.m; dsimp only; rw [List.length_append, show [(l : Int), (x : Int)].length = 2 from rfl]; omega
        · unfold DS.m; dsimp only; rw [List.length_append, show [(l : Int), (x : Int)].length = 2 from rfl]; omega
        · dsimp only at e; rw [e] at hT; exact absurd rfl hT
theorem DOk.addF {D : DS} (h : DOk D) (s : List UInt8) : DOk (dAddF D s).1 := by
  unfold dAddF
  split
  · exact h
  · rename_i l x hp
    split
    · exact h
    · rename_i hT
      split
      · exact h
      · rename_i h8
        have hl := h.lF
        have h8' := h.n8
        unfold DS.n at hl h8 h8'
        refine ⟨h.lU, ?_, h.m8, ?_, h.oU, push_ok h.oF hl (parse_ok hp), fun T e => ?_⟩
        · unfold DS.n; dsimp only; rw [List.length_append, show [(l : Int), (x : Int)].length = 2 from rfl]; omega
        · unfold DS.n; dsimp only; rw [List.length_append, show [(l : Int), (x : Int)].length = 2 from rfl]; omega
        · dsimp only at e; rw [e] at hT; exact absurd rfl hT
theorem DOk.start {D : DS} (h : DOk D) : DOk (dStart D).1 := by
  unfold dStart
  split
  · exact h
  · split
    · exact ⟨h.lU, h.lF, h.m8, h.n8, h.oU, h.oF, fun T e => by injection e with e; subst e; exact ⟨[], 0, rfl⟩⟩
    · exact h
theorem DOk.crash {D : DS} (h : DOk D) {T : TS} (hT : D.T = some T) (k : Nat) : DOk (dCrash D T k).1 := by
  obtain ⟨T', c, he, hr, _⟩ := (h.tr T hT).torn h.m8 h.n8 k
  unfold dCrash
  rw [he, if_pos rfl]
  exact ⟨h.lU, h.lF, h.m8, h.n8, h.oU, h.oF, fun T2 e => by injection e with e; subst e; exact hr⟩
theorem DOk.ask {D : DS} (h : DOk D) {T : TS} (hT : D.T = some T) (k : Nat) (l : List Nat) : DOk (dAsk D T k l).1 :=
  ⟨h.lU, h.lF, h.m8, h.n8, h.oU, h.oF, fun T2 e => by injection e with e; subst e; exact (h.tr T hT).ask _ _ _ _⟩
theorem DOk.act {D : DS} (h : DOk D) {v : List UInt8} {l : List Nat} {r : DS × List UInt8} (he : dAct D v l = some r) : DOk r.1 := by
  unfold dAct at he
  split at he
  · split at he
    · cases he
    · split at he
      · injection he with he; subst he; exact h
      · rename_i hT; injection he with he; subst he; exact h.ask hT _ _
  · split at he
    · cases he
    · split at he
      · cases he
      · split at he
        · injection he with he; subst he; exact h
        · rename_i hT
          injection he with he
          subst he
          unfold dDo
          split
          · exact h
          · exact h
          · exact h
          · exact h.crash hT _
theorem DOk.rest {D : DS} (h : DOk D) (w : List (List UInt8)) : DOk (dRest D w).1 := by
  unfold dRest
  split
  · exact h
  · split
    · exact h
    · rename_i he; exact h.act he
theorem DOk.line {D : DS} (h : DOk D) (s : List UInt8) : DOk (dLine D s).1 := by
  unfold dLine
  split
  · exact h.addU _
  · split
    · exact h.addF _
    · split
      · exact h.start
      · exact h.rest _
end Go.Proofs.YtanlmfnhlldkeaaGreatDoor
