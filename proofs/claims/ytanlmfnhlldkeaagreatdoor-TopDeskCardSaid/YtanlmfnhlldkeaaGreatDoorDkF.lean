/-
  The maps of (*desk.desk).act.
-/
import Derived.Test.YtanlmfnhlldkeaaGreatDoorDkE
namespace Go.Proofs.YtanlmfnhlldkeaaGreatDoor
open Go.RowKit
set_option maxRecDepth 100000
set_option linter.unusedVariables false

/-- What act hands on. -/
def ActPost (lo : Nat) (own : Nat → Prop) (w : World) (b : Nat) (r : Option (DS × List UInt8)) (e : Ending) (w' : World) : Prop := match r with
  | none => e = .returned (.tuple #[.string ⟨#[]⟩, .bool false]) ∧ Below w.heap.size w w'
  | some r => e = .returned (.tuple #[.string ⟨r.2.toArray⟩, .bool true]) ∧ DkPost lo own w b r (.returned (.string ⟨r.2.toArray⟩)) w'
theorem zeroInt (V : World) : (zeroValue 3).run Tryz.prog V = .ok (.int .i64 0) V := by kernel_rfl
theorem zeroFn (V : World) : (zeroValue 40).run Tryz.prog V = .ok .nilFunc V := by kernel_rfl
def kindM : Array MapEntry := #[⟨.string ⟨#[114, 101, 97, 100]⟩, .int .i64 0, 0⟩, ⟨.string ⟨#[119, 114, 105, 116, 101]⟩, .int .i64 1, 1⟩, ⟨.string ⟨#[100, 114, 111, 112]⟩, .int .i64 2, 2⟩, ⟨.string ⟨#[99, 111, 112, 121]⟩, .int .i64 3, 3⟩]
def doesM (p3 p4 p5 : Value) : Array MapEntry := #[⟨.string ⟨#[114, 101, 97, 100, 115]⟩, (.func (.func 82) #[] #[p4, p3, p5]), 0⟩, ⟨.string ⟨#[119, 114, 105, 116, 101, 115]⟩, (.func (.func 85) #[] #[p4, p3, p5]), 1⟩, ⟨.string ⟨#[104, 111, 108, 100, 115]⟩, (.func (.func 87) #[] #[p4, p3, p5]), 2⟩, ⟨.string ⟨#[99, 114, 97, 115, 104]⟩, (.func (.func 89) #[] #[p3, p5]), 3⟩]
theorem insK0 (w : World) : (Instr.mapUpdate 150 (.map (some w.heap.size)) (.string ⟨#[114, 101, 97, 100]⟩) (.int .i64 0)).run Tryz.prog (w.alloc (.map #[] 0)) = .ok () (w.alloc (.map #[⟨.string ⟨#[114, 101, 97, 100]⟩, .int .i64 0, 0⟩] 1)) :=
  run_insertS Tryz.underlying150 Tryz.underlying9 w #[] 0 ⟨#[114, 101, 97, 100]⟩ (.int .i64 0) (fun e he => absurd he List.not_mem_nil)
theorem insK1 (w : World) : (Instr.mapUpdate 150 (.map (some w.heap.size)) (.string ⟨#[119, 114, 105, 116, 101]⟩) (.int .i64 1)).run Tryz.prog (w.alloc (.map #[⟨.string ⟨#[114, 101, 97, 100]⟩, .int .i64 0, 0⟩] 1)) = .ok () (w.alloc (.map #[⟨.string ⟨#[114, 101, 97, 100]⟩, .int .i64 0, 0⟩, ⟨.string ⟨#[119, 114, 105, 116, 101]⟩, .int .i64 1, 1⟩] 2)) :=
  run_insertS Tryz.underlying150 Tryz.underlying9 w #[⟨.string ⟨#[114, 101, 97, 100]⟩, .int .i64 0, 0⟩] 1 ⟨#[119, 114, 105, 116, 101]⟩ (.int .i64 1) (by
    intro e he
    simp only [List.mem_cons, List.not_mem_nil, or_false] at he
    subst he <;> exact ⟨_, rfl, by decide⟩)
theorem insK2 (w : World) : (Instr.mapUpdate 150 (.map (some w.heap.size)) (.string ⟨#[100, 114, 111, 112]⟩) (.int .i64 2)).run Tryz.prog (w.alloc (.map #[⟨.string ⟨#[114, 101, 97, 100]⟩, .int .i64 0, 0⟩, ⟨.string ⟨#[119, 114, 105, 116, 101]⟩, .int .i64 1, 1⟩] 2)) = .ok () (w.alloc (.map #[⟨.string ⟨#[114, 101, 97, 100]⟩, .int .i64 0, 0⟩, ⟨.string ⟨#[119, 114, 105, 116, 101]⟩, .int .i64 1, 1⟩, ⟨.string ⟨#[100, 114, 111, 112]⟩, .int .i64 2, 2⟩] 3)) :=
  run_insertS Tryz.underlying150 Tryz.underlying9 w #[⟨.string ⟨#[114, 101, 97, 100]⟩, .int .i64 0, 0⟩, ⟨.string ⟨#[119, 114, 105, 116, 101]⟩, .int .i64 1, 1⟩] 2 ⟨#[100, 114, 111, 112]⟩ (.int .i64 2) (by
    intro e he
    simp only [List.mem_cons, List.not_mem_nil, or_false] at he
    rcases he with rfl | rfl <;> exact ⟨_, rfl, by decide⟩)
theorem insK3 (w : World) : (Instr.mapUpdate 150 (.map (some w.heap.size)) (.string ⟨#[99, 111, 112, 121]⟩) (.int .i64 3)).run Tryz.prog (w.alloc (.map #[⟨.string ⟨#[114, 101, 97, 100]⟩, .int .i64 0, 0⟩, ⟨.string ⟨#[119, 114, 105, 116, 101]⟩, .int .i64 1, 1⟩, ⟨.string ⟨#[100, 114, 111, 112]⟩, .int .i64 2, 2⟩] 3)) = .ok () (w.alloc (.map #[⟨.string ⟨#[114, 101, 97, 100]⟩, .int .i64 0, 0⟩, ⟨.string ⟨#[119, 114, 105, 116, 101]⟩, .int .i64 1, 1⟩, ⟨.string ⟨#[100, 114, 111, 112]⟩, .int .i64 2, 2⟩, ⟨.string ⟨#[99, 111, 112, 121]⟩, .int .i64 3, 3⟩] 4)) :=
  run_insertS Tryz.underlying150 Tryz.underlying9 w #[⟨.string ⟨#[114, 101, 97, 100]⟩, .int .i64 0, 0⟩, ⟨.string ⟨#[119, 114, 105, 116, 101]⟩, .int .i64 1, 1⟩, ⟨.string ⟨#[100, 114, 111, 112]⟩, .int .i64 2, 2⟩] 3 ⟨#[99, 111, 112, 121]⟩ (.int .i64 3) (by
    intro e he
    simp only [List.mem_cons, List.not_mem_nil, or_false] at he
    rcases he with rfl | rfl | rfl <;> exact ⟨_, rfl, by decide⟩)
theorem insD0 (w : World) (p3 p4 p5 : Value) : (Instr.mapUpdate 153 (.map (some w.heap.size)) (.string ⟨#[114, 101, 97, 100, 115]⟩) (.func (.func 82) #[] #[p4, p3, p5])).run Tryz.prog (w.alloc (.map #[] 0)) = .ok () (w.alloc (.map #[⟨.string ⟨#[114, 101, 97, 100, 115]⟩, (.func (.func 82) #[] #[p4, p3, p5]), 0⟩] 1)) :=
  run_insertS Tryz.underlying153 Tryz.underlying9 w #[] 0 ⟨#[114, 101, 97, 100, 115]⟩ (.func (.func 82) #[] #[p4, p3, p5]) (fun e he => absurd he List.not_mem_nil)
theorem insD1 (w : World) (p3 p4 p5 : Value) : (Instr.mapUpdate 153 (.map (some w.heap.size)) (.string ⟨#[119, 114, 105, 116, 101, 115]⟩) (.func (.func 85) #[] #[p4, p3, p5])).run Tryz.prog (w.alloc (.map #[⟨.string ⟨#[114, 101, 97, 100, 115]⟩, (.func (.func 82) #[] #[p4, p3, p5]), 0⟩] 1)) = .ok () (w.alloc (.map #[⟨.string ⟨#[114, 101, 97, 100, 115]⟩, (.func (.func 82) #[] #[p4, p3, p5]), 0⟩, ⟨.string ⟨#[119, 114, 105, 116, 101, 115]⟩, (.func (.func 85) #[] #[p4, p3, p5]), 1⟩] 2)) :=
  run_insertS Tryz.underlying153 Tryz.underlying9 w #[⟨.string ⟨#[114, 101, 97, 100, 115]⟩, (.func (.func 82) #[] #[p4, p3, p5]), 0⟩] 1 ⟨#[119, 114, 105, 116, 101, 115]⟩ (.func (.func 85) #[] #[p4, p3, p5]) (by
    intro e he
    simp only [List.mem_cons, List.not_mem_nil, or_false] at he
    subst he <;> exact ⟨_, rfl, by decide⟩)
theorem insD2 (w : World) (p3 p4 p5 : Value) : (Instr.mapUpdate 153 (.map (some w.heap.size)) (.string ⟨#[104, 111, 108, 100, 115]⟩) (.func (.func 87) #[] #[p4, p3, p5])).run Tryz.prog (w.alloc (.map #[⟨.string ⟨#[114, 101, 97, 100, 115]⟩, (.func (.func 82) #[] #[p4, p3, p5]), 0⟩, ⟨.string ⟨#[119, 114, 105, 116, 101, 115]⟩, (.func (.func 85) #[] #[p4, p3, p5]), 1⟩] 2)) = .ok () (w.alloc (.map #[⟨.string ⟨#[114, 101, 97, 100, 115]⟩, (.func (.func 82) #[] #[p4, p3, p5]), 0⟩, ⟨.string ⟨#[119, 114, 105, 116, 101, 115]⟩, (.func (.func 85) #[] #[p4, p3, p5]), 1⟩, ⟨.string ⟨#[104, 111, 108, 100, 115]⟩, (.func (.func 87) #[] #[p4, p3, p5]), 2⟩] 3)) :=
  run_insertS Tryz.underlying153 Tryz.underlying9 w #[⟨.string ⟨#[114, 101, 97, 100, 115]⟩, (.func (.func 82) #[] #[p4, p3, p5]), 0⟩, ⟨.string ⟨#[119, 114, 105, 116, 101, 115]⟩, (.func (.func 85) #[] #[p4, p3, p5]), 1⟩] 2 ⟨#[104, 111, 108, 100, 115]⟩ (.func (.func 87) #[] #[p4, p3, p5]) (by
    intro e he
    simp only [List.mem_cons, List.not_mem_nil, or_false] at he
    rcases he with rfl | rfl <;> exact ⟨_, rfl, by decide⟩)
theorem insD3 (w : World) (p3 p4 p5 : Value) : (Instr.mapUpdate 153 (.map (some w.heap.size)) (.string ⟨#[99, 114, 97, 115, 104]⟩) (.func (.func 89) #[] #[p3, p5])).run Tryz.prog (w.alloc (.map #[⟨.string ⟨#[114, 101, 97, 100, 115]⟩, (.func (.func 82) #[] #[p4, p3, p5]), 0⟩, ⟨.string ⟨#[119, 114, 105, 116, 101, 115]⟩, (.func (.func 85) #[] #[p4, p3, p5]), 1⟩, ⟨.string ⟨#[104, 111, 108, 100, 115]⟩, (.func (.func 87) #[] #[p4, p3, p5]), 2⟩] 3)) = .ok () (w.alloc (.map #[⟨.string ⟨#[114, 101, 97, 100, 115]⟩, (.func (.func 82) #[] #[p4, p3, p5]), 0⟩, ⟨.string ⟨#[119, 114, 105, 116, 101, 115]⟩, (.func (.func 85) #[] #[p4, p3, p5]), 1⟩, ⟨.string ⟨#[104, 111, 108, 100, 115]⟩, (.func (.func 87) #[] #[p4, p3, p5]), 2⟩, ⟨.string ⟨#[99, 114, 97, 115, 104]⟩, (.func (.func 89) #[] #[p3, p5]), 3⟩] 4)) :=
  run_insertS Tryz.underlying153 Tryz.underlying9 w #[⟨.string ⟨#[114, 101, 97, 100, 115]⟩, (.func (.func 82) #[] #[p4, p3, p5]), 0⟩, ⟨.string ⟨#[119, 114, 105, 116, 101, 115]⟩, (.func (.func 85) #[] #[p4, p3, p5]), 1⟩, ⟨.string ⟨#[104, 111, 108, 100, 115]⟩, (.func (.func 87) #[] #[p4, p3, p5]), 2⟩] 3 ⟨#[99, 114, 97, 115, 104]⟩ (.func (.func 89) #[] #[p3, p5]) (by
    intro e he
    simp only [List.mem_cons, List.not_mem_nil, or_false] at he
    rcases he with rfl | rfl | rfl <;> exact ⟨_, rfl, by decide⟩)
theorem kind_find (vs : ByteArray) : Instr.findNow .string (.string vs) kindM.toList 0 = (if vs.data.toList = vRead then some (some (0, .int .i64 0)) else if vs.data.toList = vWrite then some (some (1, .int .i64 1)) else if vs.data.toList = vDrop then some (some (2, .int .i64 2)) else if vs.data.toList = vCopy then some (some (3, .int .i64 3)) else some none) :=
  find4 vs ⟨#[114, 101, 97, 100]⟩ ⟨#[119, 114, 105, 116, 101]⟩ ⟨#[100, 114, 111, 112]⟩ ⟨#[99, 111, 112, 121]⟩ (.int .i64 0) (.int .i64 1) (.int .i64 2) (.int .i64 3) 0 1 2 3
theorem does_find (p3 p4 p5 : Value) (vs : ByteArray) : Instr.findNow .string (.string vs) (doesM p3 p4 p5).toList 0 = (if vs.data.toList = vReads then some (some (0, (.func (.func 82) #[] #[p4, p3, p5]))) else if vs.data.toList = vWrites then some (some (1, (.func (.func 85) #[] #[p4, p3, p5]))) else if vs.data.toList = vHolds then some (some (2, (.func (.func 87) #[] #[p4, p3, p5]))) else if vs.data.toList = vCrash then some (some (3, (.func (.func 89) #[] #[p3, p5]))) else some none) :=
  find4 vs ⟨#[114, 101, 97, 100, 115]⟩ ⟨#[119, 114, 105, 116, 101, 115]⟩ ⟨#[104, 111, 108, 100, 115]⟩ ⟨#[99, 114, 97, 115, 104]⟩ (.func (.func 82) #[] #[p4, p3, p5]) (.func (.func 85) #[] #[p4, p3, p5]) (.func (.func 87) #[] #[p4, p3, p5]) (.func (.func 89) #[] #[p3, p5]) 0 1 2 3
theorem kind_some {vs : ByteArray} {k : Nat} (h : kindV vs.data.toList = some k) : Instr.findNow .string (.string vs) kindM.toList 0 = some (some (k, .int .i64 k)) ∧ k < 4 := by
  rw [kind_find]
  unfold kindV at h
  by_cases h0 : vs.data.toList = vRead
  · rw [if_pos h0] at h ⊢; injection h with h; subst h; exact ⟨rfl, by decide⟩
  rw [if_neg h0] at h ⊢
  by_cases h1 : vs.data.toList = vWrite
  · rw [if_pos h1] at h ⊢; injection h with h; subst h; exact ⟨rfl, by decide⟩
  rw [if_neg h1] at h ⊢
  by_cases h2 : vs.data.toList = vDrop
  · rw [if_pos h2] at h ⊢; injection h with h; subst h; exact ⟨rfl, by decide⟩
  rw [if_neg h2] at h ⊢
  by_cases h3 : vs.data.toList = vCopy
  · rw [if_pos h3] at h ⊢; injection h with h; subst h; exact ⟨rfl, by decide⟩
  rw [if_neg h3] at h ⊢
  cases h
theorem kind_none {vs : ByteArray} (h : kindV vs.data.toList = none) : Instr.findNow .string (.string vs) kindM.toList 0 = some none := by
  rw [kind_find]
  unfold kindV at h
  by_cases h0 : vs.data.toList = vRead
  · rw [if_pos h0] at h; cases h
  rw [if_neg h0] at h ⊢
  by_cases h1 : vs.data.toList = vWrite
  · rw [if_pos h1] at h; cases h
  rw [if_neg h1] at h ⊢
  by_cases h2 : vs.data.toList = vDrop
  · rw [if_pos h2] at h; cases h
  rw [if_neg h2] at h ⊢
  by_cases h3 : vs.data.toList = vCopy
  · rw [if_pos h3] at h; cases h
  rw [if_neg h3] at h ⊢
def doF (p3 p4 p5 : Value) (j : Nat) : Value := match j with
  | 0 => (.func (.func 82) #[] #[p4, p3, p5])
  | 1 => (.func (.func 85) #[] #[p4, p3, p5])
  | 2 => (.func (.func 87) #[] #[p4, p3, p5])
  | _ => (.func (.func 89) #[] #[p3, p5])
theorem does_some (p3 p4 p5 : Value) {vs : ByteArray} {k : Nat} (h : doesV vs.data.toList = some k) : Instr.findNow .string (.string vs) (doesM p3 p4 p5).toList 0 = some (some (k, doF p3 p4 p5 k)) ∧ k < 4 := by
  rw [does_find]
  unfold doesV at h
  by_cases h0 : vs.data.toList = vReads
  · rw [if_pos h0] at h ⊢; injection h with h; subst h; exact ⟨rfl, by decide⟩
  rw [if_neg h0] at h ⊢
  by_cases h1 : vs.data.toList = vWrites
  · rw [if_pos h1] at h ⊢; injection h with h; subst h; exact ⟨rfl, by decide⟩
  rw [if_neg h1] at h ⊢
  by_cases h2 : vs.data.toList = vHolds
  · rw [if_pos h2] at h ⊢; injection h with h; subst h; exact ⟨rfl, by decide⟩
  rw [if_neg h2] at h ⊢
  by_cases h3 : vs.data.toList = vCrash
  · rw [if_pos h3] at h ⊢; injection h with h; subst h; exact ⟨rfl, by decide⟩
  rw [if_neg h3] at h ⊢
  cases h
theorem does_none (p3 p4 p5 : Value) {vs : ByteArray} (h : doesV vs.data.toList = none) : Instr.findNow .string (.string vs) (doesM p3 p4 p5).toList 0 = some none := by
  rw [does_find]
  unfold doesV at h
  by_cases h0 : vs.data.toList = vReads
  · rw [if_pos h0] at h; cases h
  rw [if_neg h0] at h ⊢
  by_cases h1 : vs.data.toList = vWrites
  · rw [if_pos h1] at h; cases h
  rw [if_neg h1] at h ⊢
  by_cases h2 : vs.data.toList = vHolds
  · rw [if_pos h2] at h; cases h
  rw [if_neg h2] at h ⊢
  by_cases h3 : vs.data.toList = vCrash
  · rw [if_pos h3] at h; cases h
  rw [if_neg h3] at h ⊢
theorem kind_does {l : List UInt8} {k : Nat} (h : kindV l = some k) : doesV l = none := by
  unfold kindV at h
  by_cases h0 : l = vRead
  · rw [h0]; decide
  rw [if_neg h0] at h
  by_cases h1 : l = vWrite
  · rw [h1]; decide
  rw [if_neg h1] at h
  by_cases h2 : l = vDrop
  · rw [h2]; decide
  rw [if_neg h2] at h
  by_cases h3 : l = vCopy
  · rw [h3]; decide
  rw [if_neg h3] at h
  cases h
end Go.Proofs.YtanlmfnhlldkeaaGreatDoor
