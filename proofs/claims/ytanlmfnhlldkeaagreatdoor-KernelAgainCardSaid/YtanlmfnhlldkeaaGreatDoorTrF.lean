/-
  Contracts: strings.Split at one byte; strconv.Atoi of a word.
-/
import Derived.Test.YtanlmfnhlldkeaaGreatDoorTrsA
import Derived.Test.YtanlmfnhlldkeaaGreatDoorShelf
import Derived.Test.YtanlmfnhlldkeaaGreatDoorLines
import Derived.Shelf.Strings.SplitCore
namespace Go.Proofs.YtanlmfnhlldkeaaGreatDoor
open Go.RowKit
set_option maxRecDepth 100000
set_option linter.unusedVariables false

/-- The pieces of a text, cut at a byte. -/
def cutB (c : UInt8) (s : ByteArray) : List ByteArray := Lib.splitB ⟨#[c]⟩ 0 (Lib.countB s ⟨#[c]⟩) s
theorem cutB_map (c : UInt8) (s : ByteArray) : (cutB c s).map (·.data.toList) = cutL c s.data.toList := splitB_one c s
theorem cutB_length (c : UInt8) (s : ByteArray) : (cutB c s).length = Lib.countB s ⟨#[c]⟩ + 1 := Lib.splitB_all ⟨#[c]⟩ (Nat.le_refl 1) 0 _ s rfl
set_option maxHeartbeats 4000000 in
/-- Split, at one byte. -/
theorem Split_one (c : UInt8) (s : ByteArray) (hs : s.size < 4294967281) (w : World) :
    Calls Tryz.prog 50 #[.string s, .string ⟨#[c]⟩] w fun e w' =>
      e = .returned (.slice (some ⟨w.heap.size, 0, none⟩) (cutB c s).length (cutB c s).length) ∧ w' = w.alloc (.cells ((cutB c s).map Value.string).toArray 9) := by
  have hle := Lib.countB_le ⟨#[c]⟩ (Nat.le_refl 1) s.size s (Nat.le_refl _)
  have hlen := cutB_length c s
  have hC : Calls Tryz.prog 101 #[.string s, .string ⟨#[c]⟩] w fun e w' => e = .returned (.int .i64 (Lib.countB s ⟨#[c]⟩)) ∧ w' = w := (Tryz.strings_Count_one s c w).mono fun e w' ⟨he, hw⟩ => ⟨by
    rw [he]
    show _ = Ending.returned (Value.int .i64 ((Lib.count s.data.toList [c] : Nat) : Int))
    rw [Lib.count_one]
    rfl, hw⟩
  have hI : ∀ (x : ByteArray) (cc : Array Value), x.size ≤ s.size → Calls Tryz.prog 102 #[.string x, .string ⟨#[c]⟩] (w.alloc (.cells cc 9)) fun e w' => e = .returned (.int .i64 (Lib.indexB x ⟨#[c]⟩)) ∧ w' = w.alloc (.cells cc 9) := fun x cc _ => (Tryz.strings_Index_one x c _).mono fun e w' ⟨he, hw⟩ => ⟨by
    rw [he]
    show _ = Ending.returned (Value.int .i64 (Lib.index x.data.toList [c]))
    rw [index_one], hw⟩
  have C := Any.strings_genSplit_core Tryz.lays221 (by kernel_rfl) s ⟨#[c]⟩ 0 (-1) (Lib.countB s ⟨#[c]⟩ + 1) w hs (Nat.le_refl 1) (Nat.zero_le _) hI hC (by decide) (by decide) (by rw [if_pos (by decide)]; omega)
  rw [Nat.add_sub_cancel] at C
  have e2 : Lib.cellsOf (Lib.splitB ⟨#[c]⟩ 0 (Lib.countB s ⟨#[c]⟩) s) (Lib.countB s ⟨#[c]⟩ + 1) = ((cutB c s).map Value.string).toArray := by rw [← hlen]; exact Lib.cellsOf_full _
  rw [e2, show Lib.splitB ⟨#[c]⟩ 0 (Lib.countB s ⟨#[c]⟩) s = cutB c s from rfl, ← hlen] at C
  have CC := Lib.hid C
  clear C hI hC hle e2 hlen
  go_enter Tryz.func50, Tryz.ntmps50
  go_wp2_with (go_at_call 69; refine CC.out.mono ?_; rintro e w' ⟨rfl, rfl⟩)
  go_ret
  exact ⟨rfl, rfl⟩
/-- What Atoi and Itoa say of a word. -/
inductive WordIs (W0 : World) (x : ByteArray) (e : Ending) : Prop
  | num (n : Nat) (h : numV x.data.toList = some n) (he : e = .returned (.tuple #[.int .i64 n, .nilIface]))
  | neg (v : Int) (h : numV x.data.toList = none) (hv : v < 0) (he : e = .returned (.tuple #[.int .i64 v, .nilIface]))
  | odd (n : Nat) (h : numV x.data.toList = none) (hn : n < 9223372036854775808) (hx : Lib.itoa (n : Int) ≠ x.data.toList) (he : e = .returned (.tuple #[.int .i64 n, .nilIface]))
  | bad (h : numV x.data.toList = none) (v : Int) (t : TypeId) (p : Value) (he : e = .returned (.tuple #[.int .i64 v, .iface t p]))
theorem atoi_bounds {l : List UInt8} {v : Int} (h : Lib.atoiAll l = .ok v) : v < 9223372036854775808 := by
  unfold Lib.atoiAll at h
  split at h
  · cases h
  · dsimp only at h
    split at h
    · cases h
    · cases h
    · split at h
      · cases h
      · split at h
        · cases h
        · injection h with h
          split at h <;> omega
theorem Word_any {W0 : World} (hG : Glob W0) (x : ByteArray) (hx : x.size ≤ 281474976710656) {V : World} (hV : Below W0.heap.size W0 V) :
    Calls Tryz.prog 51 #[.string x] V fun e w' => WordIs W0 x e ∧ Below V.heap.size V w' := by
  have hbw : ∀ w', (w' = V ∨ ∃ t, w' = Lib.bytesWorld V 5 t) → Below V.heap.size V w' := by
    rintro w' (rfl | ⟨t, rfl⟩)
    · exact Below.refl _ _
    · exact below_bytesW _ _ _
  obtain ⟨⟨te, pe, h1⟩, ⟨te', pe', h2⟩⟩ := hG.num V hV
  cases hn : numV x.data.toList with
  | some n =>
    exact (Tryz.strconv_Atoi_ok x (by omega) n (atoi_num hn) V).mono fun e w' ⟨he, hw⟩ => ⟨.num n hn he, hbw w' hw⟩
  | none =>
    rcases ha : Lib.atoiAll x.data.toList with v | _ | _
    · skip
      refine (Tryz.strconv_Atoi_ok x (by omega) v ha V).mono fun e w' ⟨he, hw⟩ => ⟨?_, hbw w' hw⟩
      by_cases h0 : v < 0
      · exact .neg v hn h0 he
      · obtain ⟨n, rfl⟩ := Int.eq_ofNat_of_zero_le (by omega : 0 ≤ v)
        exact .odd n hn (by have := atoi_bounds ha; omega) (atoi_none hn ha (by omega)) he
    · exact (Tryz.strconv_Atoi_syntax x hx ha _ V h1 (.inr ⟨_, _, rfl⟩)).mono fun e w' ⟨N, he, _, _, hb⟩ => ⟨.bad hn _ _ _ he, hb⟩
    · exact (Tryz.strconv_Atoi_range x hx ha _ V h2 (.inr ⟨_, _, rfl⟩)).mono fun e w' ⟨N, he, _, _, hb⟩ => ⟨.bad hn _ _ _ he, hb⟩
end Go.Proofs.YtanlmfnhlldkeaaGreatDoor
