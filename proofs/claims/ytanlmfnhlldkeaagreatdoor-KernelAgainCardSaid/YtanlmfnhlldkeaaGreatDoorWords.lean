/-
  Contract: kernel.words: numbers into a builder, a space between each and the next.
-/
import Derived.Test.YtanlmfnhlldkeaaGreatDoorBuildStr
import Derived.Test.YtanlmfnhlldkeaaGreatDoorItoa
import Derived.Sort.Grow
import Derived.Lib.AppendIntMem
namespace Go.Proofs.YtanlmfnhlldkeaaGreatDoor
open Go.RowKit
set_option maxRecDepth 100000
set_option linter.unusedVariables false

/-- The text of the first numbers of a list. -/
def wTo (l : List Int) : Nat → List UInt8
  | 0 => []
  | k + 1 => wTo l k ++ ((if 0 < k then [32] else []) ++ Lib.itoa (l.getD k 0))
def wordsT (l : List Int) : List UInt8 := wTo l l.length
theorem getD_I64 {l : List Int} (h : ∀ x ∈ l, -9223372036854775808 ≤ x ∧ x ≤ 9223372036854775807) (k : Nat) : -9223372036854775808 ≤ l.getD k 0 ∧ l.getD k 0 ≤ 9223372036854775807 := by
  rcases Nat.lt_or_ge k l.length with h1 | h1
  · rw [List.getD_eq_getElem?_getD, List.getElem?_eq_getElem h1]; exact h _ (List.getElem_mem h1)
  · rw [List.getD_eq_getElem?_getD, List.getElem?_eq_none h1]; simp
theorem wTo_len {l : List Int} (h : ∀ x ∈ l, -9223372036854775808 ≤ x ∧ x ≤ 9223372036854775807) : ∀ k, (wTo l k).length ≤ 22 * k
  | 0 => by simp [wTo]
  | k + 1 => by
    have h1 := wTo_len h k
    have h2 := Lib.itoa_length_le _ (getD_I64 h k).1 (getD_I64 h k).2
    rw [wTo]
    generalize Lib.itoa (l.getD k 0) = t at *
    rw [List.length_append, List.length_append]
    split <;> simp <;> omega
/-- A row of ints that a builder's writing spares. -/
def IntRow (b : Nat) (w : World) (A : Option Addr) (l : List Int) : Prop := IntsAt w A l ∧ ∀ g off, A = some ⟨g, off, none⟩ → l ≠ [] → g ≠ b ∧ ∃ cs t f, w.heap[g]? = some (.cells cs t f) ∧ t ≠ 5
theorem IntRow.kept {b : Nat} {w w' : World} {A : Option Addr} {l : List Int} (h : IntRow b w A l) (hk : Lib.OthersKept 5 (some b) w w') : IntRow b w' A l := by
  have key : ∀ g off, A = some ⟨g, off, none⟩ → l ≠ [] → w'.heap[g]? = w.heap[g]? := fun g off e hl => by
    obtain ⟨h1, cs, t, f, h2, h3⟩ := h.2 g off e hl
    rw [h2]
    exact hk g _ h2 (fun e => h1 (by injection e)) (fun c fz e => by injection e with _ e; exact h3 e)
  refine ⟨fun hl => ?_, fun g off e hl => ?_⟩
  · obtain ⟨g, off, e, hc⟩ := h.1 hl
    refine ⟨g, off, e, fun j v hj => ?_⟩
    rw [World.cell?_of_block (key g off e hl)]
    exact hc j v hj
  · obtain ⟨h1, cs, t, f, h2, h3⟩ := h.2 g off e hl
    exact ⟨h1, cs, t, f, (key g off e hl).trans h2, h3⟩
theorem othersKept_below {b : Option Nat} {w w' : World} (h : Below w.heap.size w w') : Lib.OthersKept 5 b w w' := fun k o hk _ _ => (h.block k (Array.getElem?_eq_some_iff.1 hk).1).trans hk
theorem built_below {B b : Nat} {l : List Value} {w w' : World} (h : Built B b l w) (hb : Below w.heap.size w w') : Built B b l w' :=
  builder_kept h (row := none) ⟨hb.os, hb.tape, hb.output, hb.size, fun k hk _ => hb.block k hk⟩ (fun r e => by cases e)
theorem bytes_size (l : List UInt8) : (⟨l.toArray⟩ : ByteArray).size = l.length := by simp [ByteArray.size]
theorem byteCells_append (a b : List UInt8) : Lib.byteCells (a ++ b) = Lib.byteCells a ++ Lib.byteCells b := by simp [Lib.byteCells]

set_option maxHeartbeats 4000000 in
theorem words_any {B b n c : Nat} {l : List Int} {A : Option Addr} {cs : List UInt8} {w : World} (h : Built B b (Lib.byteCells cs) w) (hA : IntRow b w A l) (hn : l.length = n) (hlen : cs.length + 22 * n ≤ 2 ^ 46) (hB : B ≤ w.heap.size) (hP : Pow10 B w)
    (hI : ∀ x ∈ l, -9223372036854775808 ≤ x ∧ x ≤ 9223372036854775807) :
    Calls Tryz.prog 33 #[.pointer (some ⟨b, 0, none⟩), .slice A n c] w fun e w' => e = .returned (.tuple #[]) ∧ Built B b (Lib.byteCells (cs ++ wordsT l)) w' ∧ Below B w w' ∧ Lib.OthersKept 5 (some b) w w' := by
  have Hfin := Lib.hid (show wordsT l = wTo l n by unfold wordsT; rw [hn])
  have Hlen := Lib.hid (wTo_len hI)
  have HI := Lib.hid (getD_I64 hI)
  have HA := Lib.hid hA
  have Hn := Lib.hid hn
  clear hA hn hI
  go_enter Tryz.func33, Tryz.ntmps33
  go_wp2_with fail
  go_loopw [8, 4, 5] (fun i _ _ wr => ∃ k : Nat, k ≤ n ∧ i = .int .i64 k ∧ Hid (Built B b (Lib.byteCells (cs ++ wTo l k)) wr) ∧ Below B w wr ∧ Hid (Lib.OthersKept 5 (some b) w wr)) (fun i _ _ _ => n - (intOf i).toNat)
  case atStart => exact ⟨0, Nat.zero_le _, rfl, Lib.hid (by rw [wTo, List.append_nil]; exact h), Below.refl _ _, Lib.hid (Lib.OthersKept.refl _ _ _)⟩
  case round =>
    obtain ⟨k, hk, rfl, hbu, hbr, hok⟩ := hrel
    have hsz := hbr.size
    by_cases hlt : k < n
    · have dlt : decide ((k : Int) < (n : Int)) = true := decide_eq_true (by omega)
      obtain ⟨g, off, x, rfl, hx, hc⟩ := (HA.out.kept hok.out).1.at_ (k := k) (by rw [Hn.out]; exact hlt)
      have hxe : l.getD k 0 = x := by rw [List.getD_eq_getElem?_getD, hx.out]; rfl
      have hx64 := HI.out k
      rw [hxe] at hx64
      have hl1 := Hlen.out k
      have hcl : (Lib.byteCells (cs ++ wTo l k)).length ≤ cs.length + 22 * k := by simp [Lib.byteCells]; exact hl1
      have Hit := Lib.hid (Lib.itoa_length_le x hx64.1 hx64.2)
      rcases Nat.eq_zero_or_pos k with hk0 | hk0
      · have dg : decide ((k : Int) > 0) = false := by subst hk0; rfl
        have dg2 : decide (0 < k) = false := by subst hk0; rfl
        have Hst := Lib.hid (show wTo l (k + 1) = wTo l k ++ Lib.itoa x by rw [wTo, if_neg (by omega), hxe]; rfl)
        have HIt := Lib.hid (Itoa_any x hx64 wr (hP wr hbr))
        clear hk0 hx hxe hx64
        go_wp2_with fail
        refine HIt.out.mono ?_
        rintro e w3 ⟨rfl, hb3⟩
        have hbr3 : Below B w w3 := hbr.trans (hb3.mono (by omega))
        have hsz3 := hbr3.size
        have HS := Lib.hid (WriteString_any B b _ ⟨(Lib.itoa x).toArray⟩ w3 (built_below hbu.out hb3) (by rw [bytes_size]; have := Hit.out; omega) (by omega))
        go_wp2_with fail
        refine HS.out.mono ?_
        rintro e w4 ⟨rfl, hbu4, hb4, hk4⟩
        have Hok4 := Lib.hid ((hok.out.trans (othersKept_below hb3)).trans hk4)
        go_wp2_with fail
        refine ⟨⟨k + 1, ?ya, ?yb, ?yc, hbr3.trans hb4, Hok4⟩, ?yd⟩
        case ya => omega
        case yb => go_num
        case yc => exact Lib.hid (by rw [Hst.out, ← List.append_assoc, byteCells_append (cs ++ wTo l k)]; exact hbu4)
        case yd => simp [intOf]; omega
      · have dg : decide ((k : Int) > 0) = true := by simp; omega
        have dg2 : decide (0 < k) = true := by simp; omega
        have Hst := Lib.hid (show wTo l (k + 1) = (wTo l k ++ [32]) ++ Lib.itoa x by rw [wTo, if_pos hk0, hxe, List.append_assoc])
        have HW := Lib.hid (WriteByte_any B b _ 32 wr hbu.out (by omega) (by omega))
        clear hk0 hx hxe
        go_wp2_with fail
        refine HW.out.mono ?_
        rintro e w2 ⟨rfl, hbu2, hb2, hk2⟩
        have hbr2 := hbr.trans hb2
        have HIt := Lib.hid (Itoa_any x hx64 w2 (hP w2 hbr2))
        have hsz2 := hbr2.size
        go_wp2_with fail
        refine HIt.out.mono ?_
        rintro e w3 ⟨rfl, hb3⟩
        have hbr3 : Below B w w3 := hbr2.trans (hb3.mono (by omega))
        have hsz3 := hbr3.size
        have HS := Lib.hid (WriteString_any B b _ ⟨(Lib.itoa x).toArray⟩ w3 (built_below hbu2 hb3) (by rw [bytes_size, List.length_append, List.length_singleton]; have := Hit.out; omega) (by omega))
        go_wp2_with fail
        refine HS.out.mono ?_
        rintro e w4 ⟨rfl, hbu4, hb4, hk4⟩
        have Hok4 := Lib.hid (((hok.out.trans hk2).trans (othersKept_below hb3)).trans hk4)
        go_wp2_with fail
        refine ⟨⟨k + 1, ?za, ?zb, ?zc, hbr3.trans hb4, Hok4⟩, ?zd⟩
        case za => omega
        case zb => go_num
        case zc => exact Lib.hid (by rw [Hst.out, ← List.append_assoc, ← List.append_assoc, byteCells_append _ (Lib.itoa x), byteCells_append (cs ++ wTo l k)]; exact hbu4)
        case zd => simp [intOf]; omega
    · obtain rfl : k = n := by omega
      have dlt : decide ((k : Int) < (k : Int)) = false := by simp
      go_wp2_with fail
      go_end0
      exact ⟨rfl, by rw [Hfin.out]; exact hbu.out, hbr, hok.out⟩
end Go.Proofs.YtanlmfnhlldkeaaGreatDoor
