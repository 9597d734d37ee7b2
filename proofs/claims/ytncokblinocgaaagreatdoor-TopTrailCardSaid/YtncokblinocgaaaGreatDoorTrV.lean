/-
  Plain: what is opened of a beginning; strings that turned.
-/
import Derived.Test.YtncokblinocgaaaGreatDoorTrX
namespace Go.Proofs.YtncokblinocgaaaGreatDoor
open Go.RowKit
set_option maxRecDepth 100000
set_option linter.unusedVariables false

theorem turned_ext {s : ByteArray} {i : Nat} {c : UInt8} (h : i < s.size) : s.extract 0 i ++ ⟨#[c]⟩ ++ s.extract (i + 1) s.size = ⟨(s.data.toList.set i c).toArray⟩ := by
  apply ba_ext
  rw [ba_of, List.set_eq_take_append_cons_drop, if_pos (by rw [← ba_size]; exact h)]
  have e1 : (s.extract 0 i).data.toList = s.data.toList.take i := by simp
  have e2 : (s.extract (i + 1) s.size).data.toList = s.data.toList.drop (i + 1) := by rw [Lib.extract_data, List.take_of_length_le (by rw [List.length_drop, ba_size]; exact Nat.le_refl _)]
  rw [← e1, ← e2]
  simp
theorem count_next {l : List UInt8} {k : Nat} (h : k < l.length) : (l.take (k + 1)).count 10 = (l.take k).count 10 + if (l.getD k 0).toNat = 10 then 1 else 0 := by
  rw [List.take_add_one, List.getElem?_eq_getElem h, Option.toList_some, List.count_append, List.getD_eq_getElem?_getD, List.getElem?_eq_getElem h, Option.getD_some, List.count_singleton]
  congr 1
  by_cases e : l[k] = 10
  · rw [e]; rfl
  · have : ¬ l[k].toNat = 10 := fun h => e (UInt8.toNat_inj.1 h)
    simp [e, this]
section
variable {U F K : List Int} {T : TS}
/-- One ask more: one line more just if the error is not 1. -/
theorem askAt_many (h : TInv U F T) (k : Nat) (hm : T.many ≠ 100) : ((askAt U F K T k).2 = 1 ∧ (askAt U F K T k).1.many = T.many) ∨ ((askAt U F K T k).2 ≠ 1 ∧ (askAt U F K T k).1.many = T.many + 1) := by
  rcases askAt_cases (K := K) h k with ⟨h1, _⟩ | ⟨_, h1⟩ | ⟨h1, _, _, h2, _⟩
  · exact absurd h1 hm
  · rw [h1]; exact .inl ⟨rfl, rfl⟩
  · exact .inr ⟨h1, h2⟩
theorem many_all (h : TInv U F T) (hm0 : T.many = 0) : ∀ (n c : Nat), n ≤ 60 → c ≤ (tRun U F K T n).many → ∃ j, j ≤ n ∧ (tRun U F K T j).many = c
  | 0, c, _, hc => ⟨0, Nat.le_refl _, by have : (tRun U F K T 0).many = 0 := hm0; omega⟩
  | n + 1, c, hn, hc => by
    have hle := tRun_many_le (K := K) h hm0 n
    have hs := askAt_many (K := K) (h.run (K := K) n) n (by omega)
    rw [tRun_succ] at hc
    rcases Nat.lt_or_ge (tRun U F K T n).many c with hlt | hge
    · exact ⟨n + 1, Nat.le_refl _, by rw [tRun_succ]; omega⟩
    · obtain ⟨j, hj, he⟩ := many_all h hm0 n c (by omega) hge
      exact ⟨j, by omega, he⟩
/-- Opened of any beginning. -/
theorem torn_some (h : TInv U F T) (h0 : T.log = []) (hm0 : T.many = 0) (n k : Nat) (hn : n ≤ 60) : ∃ T', tOpen U F T ((tRun U F K T n).log.take k) = (T', ((tRun U F K T n).log.take k).count 10, 0) ∧ ((tRun U F K T n).log.take k).count 10 ≤ (tRun U F K T n).many ∧ (∃ j, j ≤ n ∧ T' = tRun U F K T j) ∧
    ∀ j, j ≤ n → (tRun U F K T j).many = ((tRun U F K T n).log.take k).count 10 → tRun U F K T j = T' := by
  obtain ⟨hc, hall⟩ := open_torn (K := K) h h0 hm0 n k
  obtain ⟨j, hj, hm⟩ := many_all (K := K) h hm0 n _ hn hc
  have ho := hall j hj hm
  refine ⟨tRun U F K T j, by rw [ho, hm], hc, ⟨j, hj, rfl⟩, fun i hi hmi => ?_⟩
  have := hall i hi hmi
  rw [ho] at this
  exact (Prod.mk.inj this).1.symm
end
end Go.Proofs.YtncokblinocgaaaGreatDoor
