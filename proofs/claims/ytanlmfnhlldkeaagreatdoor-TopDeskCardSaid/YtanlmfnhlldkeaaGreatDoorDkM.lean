/-
  A map of four texts, built and read at once.
-/
import Derived.Test.YtanlmfnhlldkeaaGreatDoorDkN
import Derived.MapFrom
namespace Go.Proofs.YtanlmfnhlldkeaaGreatDoor
open Go.RowKit
set_option linter.unusedVariables false

theorem bs_ne {a b : ByteArray} (h : a.data.toList ≠ b.data.toList) : (a == b) = false := by
  cases e : a == b with
  | false => rfl
  | true => exact absurd (by rw [(MapKept.bytes_beq a b).1 e]) h
theorem bs_eq (a : ByteArray) : (a == a) = true := (MapKept.bytes_beq a a).2 rfl
theorem find4 (s k0 k1 k2 k3 : ByteArray) (f0 f1 f2 f3 : Value) (c0 c1 c2 c3 : Nat) : Instr.findNow .string (.string s) [⟨.string k0, f0, c0⟩, ⟨.string k1, f1, c1⟩, ⟨.string k2, f2, c2⟩, ⟨.string k3, f3, c3⟩] 0 =
    if s.data.toList = k0.data.toList then some (some (0, f0)) else if s.data.toList = k1.data.toList then some (some (1, f1)) else if s.data.toList = k2.data.toList then some (some (2, f2)) else if s.data.toList = k3.data.toList then some (some (3, f3)) else some none := by
  have step : ∀ (k : ByteArray) (f : Value) (c : Nat) (es : List MapEntry) (i : Nat), Instr.findNow .string (.string s) (⟨.string k, f, c⟩ :: es) i = if s.data.toList = k.data.toList then some (some (i, f)) else Instr.findNow .string (.string s) es (i + 1) := fun k f c es i => by
    by_cases h : s.data.toList = k.data.toList
    · have e : s = k := ByteArray.ext (Array.toList_inj.1 h)
      subst e
      rw [if_pos rfl]
      simp [Instr.findNow, Instr.sameNow, bs_eq]
    · rw [if_neg h]
      simp [Instr.findNow, Instr.sameNow, bs_ne h]
  rw [step, step, step, step]
  rfl
theorem find_new (s : ByteArray) : ∀ (es : List MapEntry) (i : Nat), (∀ e ∈ es, ∃ k : ByteArray, e.key = .string k ∧ s.data.toList ≠ k.data.toList) → Instr.findNow .string (.string s) es i = some none
  | [], i, _ => rfl
  | e :: es, i, h => by
    obtain ⟨k, hk, hne⟩ := h e (List.mem_cons_self ..)
    have ih := find_new s es (i + 1) fun x hx => h x (List.mem_cons_of_mem _ hx)
    simp [Instr.findNow, hk, Instr.sameNow, bs_ne hne, ih]
section
variable {P : Program} {mty kt et : TypeId}
theorem run_makeMapN (t : TypeId) (w : World) : (Instr.makeMap t none).run P w = .ok (.map (some w.heap.size)) (w.alloc (.map #[] 0)) := rfl
theorem run_makeFuncN (fn : Fn) (first cap : Array Value) (w : World) : (Instr.makeFunc fn first cap).run P w = .ok (.func fn first cap) w := rfl
theorem run_insertS (hm : P.underlying mty = some (.map kt et)) (hd : P.underlying kt = some .string) (w : World) (es : Array MapEntry) (c : Nat) (s : ByteArray) (v : Value) (h1 : ∀ e ∈ es.toList, ∃ k : ByteArray, e.key = .string k ∧ s.data.toList ≠ k.data.toList) :
    (Instr.mapUpdate mty (.map (some w.heap.size)) (.string s) v).run P (w.alloc (.map es c)) = .ok () (w.alloc (.map (es.push ⟨.string s, v, c⟩) (c + 1))) := by
  have hb : (w.alloc (.map es c)).heap[w.heap.size]? = some (.map es c) := heap_alloc_new w _
  have hk : MapKept.IsKey .string (.string s) := trivial
  have hf := find_new s es.toList 0 h1
  simp only [Instr.mapUpdate, Sem.run_bind, run_underlying hm, MapKept.run_getObj_map hb, MapKept.run_checkKey hd hk, MapKept.run_findKey hd hf, MapKept.run_setObj_map _ hb, Result.andThen]
  congr 1
  show ({ (w.alloc (.map es c)) with heap := (w.heap.push (Obj.map es c)).setIfInBounds w.heap.size (Obj.map (es.push { key := Value.string s, val := v, born := c }) (c + 1)) } : World) = w.alloc (Obj.map (es.push { key := Value.string s, val := v, born := c }) (c + 1))
  have e : (w.heap.push (Obj.map es c)).setIfInBounds w.heap.size (Obj.map (es.push { key := Value.string s, val := v, born := c }) (c + 1)) = w.heap.push (Obj.map (es.push { key := Value.string s, val := v, born := c }) (c + 1)) := by
    apply Array.ext
    · simp
    · intro i h1 h2
      rcases Nat.lt_or_ge i w.heap.size with h | h
      · rw [Array.getElem_setIfInBounds_ne (by simp; omega) (by omega), Array.getElem_push_lt h, Array.getElem_push_lt h]
      · have hi : i = w.heap.size := by simp at h2; omega
        subst hi
        simp
  rw [e]
  rfl
theorem run_lookupS (hm : P.underlying mty = some (.map kt et)) (hd : P.underlying kt = some .string) {w : World} {r : Nat} {es : Array MapEntry} {c : Nat} (hb : w.heap[r]? = some (.map es c)) (s : ByteArray) {i : Nat} {v : Value} (h1 : Instr.findNow .string (.string s) es.toList 0 = some (some (i, v))) :
    (Instr.lookup mty (.map (some r)) (.string s) true).run P w = .ok (.tuple #[v, .bool true]) w := by
  have hk : MapKept.IsKey .string (.string s) := trivial
  simp [Instr.lookup, run_underlying hm, MapKept.run_getObj_map hb, MapKept.run_checkKey hd hk, MapKept.run_findKey hd h1, Result.andThen]
theorem run_lookupN (hm : P.underlying mty = some (.map kt et)) (hd : P.underlying kt = some .string) {w : World} {r : Nat} {es : Array MapEntry} {c : Nat} (hb : w.heap[r]? = some (.map es c)) (s : ByteArray) {z : Value} (hz : (zeroValue et).run P w = .ok z w) (h1 : Instr.findNow .string (.string s) es.toList 0 = some none) :
    (Instr.lookup mty (.map (some r)) (.string s) true).run P w = .ok (.tuple #[z, .bool false]) w := by
  have hk : MapKept.IsKey .string (.string s) := trivial
  simp [Instr.lookup, run_underlying hm, MapKept.run_getObj_map hb, MapKept.run_checkKey hd hk, MapKept.run_findKey hd h1, hz, Result.andThen]
end
end Go.Proofs.YtanlmfnhlldkeaaGreatDoor
