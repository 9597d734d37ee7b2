/-
  A kernel, and the reference's beside it: what stays from call to call.
-/
import Derived.Test.YtgkanbaboeppfaaDoorKRNew
import Derived.Test.YtgkanbaboeppfaaDoorKernN
import Derived.Test.YtgkanbaboeppfaaDoorKernR
import Derived.Test.YtgkanbaboeppfaaDoorSaveB
import Derived.Test.YtgkanbaboeppfaaDoorShownCap
namespace Go.Proofs.YtgkanbaboeppfaaDoor
open Go.RowKit
set_option maxRecDepth 100000
set_option linter.unusedVariables false

theorem RKIn.stays {ok : Nat → Prop} {w V : World} {Pp Hp : Option Addr} {cP cH n q : Nat} {s : KState} (h : RKIn ok w Pp Hp cP cH n q s) (hk : ∀ b, b < w.heap.size → ok b → V.heap[b]? = w.heap[b]?) : RKIn ok V Pp Hp cP cH n q s := ⟨h.parts.keep hk, h.held.keep hk, h.capP, h.capH, h.capsP.keep hk, h.capsH.keep hk⟩
theorem RKIn.wider {ok ok' : Nat → Prop} {w : World} {Pp Hp : Option Addr} {cP cH n q : Nat} {s : KState} (h : RKIn ok w Pp Hp cP cH n q s) (ho : ∀ b, b < w.heap.size → ok b → ok' b) : RKIn ok' w Pp Hp cP cH n q s := ⟨h.parts.mono ho, h.held.mono ho, h.capP, h.capH, h.capsP.mono ho, h.capsH.mono ho⟩
/-- The state at a tick. -/
def sAt (L : List (List Int)) (T : List Int) (t : Nat) : KState := kturns (sysOps L) (turnsFrom T 0 t) kNew
theorem sAt_succ (L : List (List Int)) (T : List Int) (t : Nat) : sAt L T (t + 1) = kstep (sysOps L) (nI T (t % T.length)).toNat (sAt L T t) := by unfold sAt; rw [turnsFrom_succ, kturns_snoc, Nat.zero_add]
theorem sAt_add (L : List (List Int)) (T : List Int) (t n : Nat) : kturns (sysOps L) (turnsFrom T t n) (sAt L T t) = sAt L T (t + n) := by unfold sAt; rw [turnsFrom_add, kturns_append, Nat.zero_add]
theorem sAt_inv {L : List (List Int)} {P : List Int} {q : Nat} {T : List Int} (hs : SysOk L P q T) (t : Nat) : KInv (sAt L T t) t := by
  have h := kNew_inv.turns hs (turnsFrom T 0 t)
  have hl : (turnsFrom T 0 t).length = t := by simp [turnsFrom]
  rw [hl, Nat.zero_add] at h
  exact h

section
variable {w0 w w' : World} {lo0 lo hi p G : Nat} {K : KF} {L : List (List Int)} {P : List Int} {q : Nat} {T : List Int} {Ap Ao At Pp Hp : Option Addr} {cp co ct cP cH t u : Nat}
structure PlayR (w0 : World) (lo0 lo hi p G : Nat) (K : KF) (L : List (List Int)) (P : List Int) (q : Nat) (T : List Int) (Ap Ao At : Option Addr) (cp co ct : Nat) (Pp Hp : Option Addr) (cP cH t u : Nat) (w : World) : Prop where
  role : ∃ role, KernAt role lo hi w p K L P q T (sAt L T t) t ∧ role G = 0 ∧ RKIn (fun b => role b = 0 ∧ b ≠ G) w Pp Hp cP cH L.length q (sAt L T u)
  box : BoxN w G 44 (rkV Ap Ao At cp co ct L.length q T.length u Pp Hp cP cH)
  hiG : hi ≤ G
  low : lo0 ≤ lo
  old : Below lo0 w0 w
theorem PlayR.size (h : PlayR w0 lo0 lo hi p G K L P q T Ap Ao At cp co ct Pp Hp cP cH t u w) : lo0 < w.heap.size ∧ G < w.heap.size := by
  obtain ⟨role, hk, _, _⟩ := h.role
  have h1 := hk.inn.1
  have h2 := h.hiG
  have h3 := h.low
  have h4 := h.box.lt
  omega
theorem PlayR.below (h : PlayR w0 lo0 lo hi p G K L P q T Ap Ao At cp co ct Pp Hp cP cH t u w) (hb : Below w.heap.size w w') : PlayR w0 lo0 lo hi p G K L P q T Ap Ao At cp co ct Pp Hp cP cH t u w' := by
  obtain ⟨role, hk, h0, hr⟩ := h.role
  exact ⟨⟨role, hk.below hb, h0, hr.stays fun b h1 _ => hb.block b h1⟩, h.box.all hb, h.hiG, h.low, h.old.trans (hb.mono (by have := h.size; omega))⟩
theorem KernAt.far {role : Nat → Nat} {s : KState} (h : KernAt role lo hi w p K L P q T s t) {a : Addr} (h0 : role a.block = 0) (hh : hi ≤ a.block) (v : Value) : KernAt role lo hi (w.setCell a v) p K L P q T s t :=
  h.keep (by simp) (fun b hb ho => Below.heap_setCell w a v b (fun e => by
    rcases ho with ho | ho
    · rw [e] at ho; exact ho h0
    · omega)) (fun _ _ => rfl) fun b hb => h.new b (by simpa using hb)
theorem PlayR.stored {Pp' Hp' : Option Addr} {cP' cH' : Nat} (h : PlayR w0 lo0 lo hi p G K L P q T Ap Ao At cp co ct Pp Hp cP cH t u w) (hb : Below w.heap.size w w') {role : Nat → Nat} (hk : KernAt role lo hi w p K L P q T (sAt L T t) t) (h0 : role G = 0) (hr : RKIn (fun b => role b = 0 ∧ b ≠ G) w' Pp' Hp' cP' cH' L.length q (sAt L T (u + 1))) :
    PlayR w0 lo0 lo hi p G K L P q T Ap Ao At cp co ct Pp' Hp' cP' cH' t (u + 1) ((((((w'.setCell ⟨G, 0, none⟩ (.slice Ap L.length cp)).setCell ⟨G, 1, none⟩ (.slice Ao q co)).setCell ⟨G, 2, none⟩ (.slice At T.length ct)).setCell ⟨G, 3, none⟩ (.int .i64 ((u + 1 : Nat) : Int))).setCell ⟨G, 4, none⟩ (.slice Pp' L.length cP')).setCell ⟨G, 5, none⟩ (.slice Hp' q cH')) := by
  have h1 := h.below hb
  have hk1 := hk.below hb
  have hg := h.hiG
  have hz := h1.size
  have hs : ∀ {V : World} (k : Nat) (v : Value), RKIn (fun b => role b = 0 ∧ b ≠ G) V Pp' Hp' cP' cH' L.length q (sAt L T (u + 1)) → RKIn (fun b => role b = 0 ∧ b ≠ G) (V.setCell ⟨G, k, none⟩ v) Pp' Hp' cP' cH' L.length q (sAt L T (u + 1)) := fun {V} k v x => x.stays fun b _ ho => Below.heap_setCell V ⟨G, k, none⟩ v b ho.2
  have hf : ∀ {V : World} (k : Nat) (v : Value), KernAt role lo hi V p K L P q T (sAt L T t) t → KernAt role lo hi (V.setCell ⟨G, k, none⟩ v) p K L P q T (sAt L T t) t := fun {V} k v x => x.far (a := ⟨G, k, none⟩) h0 hg v
  refine ⟨⟨role, hf _ _ (hf _ _ (hf _ _ (hf _ _ (hf _ _ (hf _ _ hk1))))), h0, hs _ _ (hs _ _ (hs _ _ (hs _ _ (hs _ _ (hs _ _ hr)))))⟩, ((((((h1.box.set 0 _).set 1 _).set 2 _).set 3 _).set 4 _).set 5 _), hg, h.low, ?_⟩
  have hl : lo0 ≤ G := by
    have h1 := hk.inn.1
    have h3 := h.low
    omega
  exact (((((((h1.old.setCell hl _).setCell hl _).setCell hl _).setCell hl _).setCell hl _).setCell hl _))
theorem PlayR.ran (h : PlayR w0 lo0 lo hi p G K L P q T Ap Ao At cp co ct Pp Hp cP cH t u w) {role role' : Nat → Nat} {t' : Nat} (h0 : role G = 0) (hk : KernAt role lo hi w p K L P q T (sAt L T t) t) (hr : RKIn (fun b => role b = 0 ∧ b ≠ G) w Pp Hp cP cH L.length q (sAt L T u)) (hk' : KernAt role' lo hi w' p K L P q T (sAt L T t') t') (rt : RoleTo role w role' w') :
    PlayR w0 lo0 lo hi p G K L P q T Ap Ao At cp co ct Pp Hp cP cH t' u w' := by
  have hz := h.size
  have hl := h.low
  exact ⟨⟨role', hk', (rt.keep G hz.2).trans h0, (hr.wider (ok' := fun b => role' b = 0 ∧ b ≠ G) fun b hb ho => ⟨(rt.keep b hb).trans ho.1, ho.2⟩).stays fun b hb ho => rt.block b hb ((rt.keep b hb).symm.trans ho.1)⟩, rt.box h.box h0, h.hiG, hl, h.old.trans (rt.to_below (fun b hb => hk.low b (by omega)) (by omega))⟩
end
end Go.Proofs.YtgkanbaboeppfaaDoor
