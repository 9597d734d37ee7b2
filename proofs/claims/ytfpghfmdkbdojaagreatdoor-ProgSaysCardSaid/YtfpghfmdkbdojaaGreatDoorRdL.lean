/-
  What prog.Read makes of a text: plain; no program of Go in sight.
-/
import Derived.Test.YtfpghfmdkbdojaaGreatDoorBase
import Derived.Lib.AtoiAll
import Derived.Lib.ItoaLen
namespace Go.Proofs.YtfpghfmdkbdojaaGreatDoor
set_option linter.unusedVariables false

/-- How far reading came: wrong by a number; or a node's place, what is still to be read, the nodes so far (five numbers each). -/
inductive PR where
  | bad (e : Nat)
  | good (i : Nat) (l : List UInt8) (o : List Int)
  deriving DecidableEq
def PR.andThen : PR → (Nat → List UInt8 → List Int → PR) → PR
  | .bad e, _ => .bad e
  | .good i l o, f => f i l o
def mk5 (l : List UInt8) (o : List Int) (k n a b c : Int) : PR := if o.length = 400 then .bad 4 else .good (o.length / 5) l (o ++ [k, n, a, b, c])
def isDig (c : UInt8) : Bool := decide (48 ≤ c.toNat ∧ c.toNat ≤ 57)
def opOf (c : UInt8) : Option Nat := if c = 43 then some 2 else if c = 60 then some 3 else if c = 61 then some 4 else none
/-- A number from 0 to 999999, just as it is written. -/
def numOf (d : List UInt8) : Option Nat := match Lib.atoiAll d with
  | .ok v => if 0 ≤ v ∧ v ≤ 999999 ∧ Lib.itoa v = d then some v.toNat else none
  | _ => none
def nameOf (c : UInt8) : Option Nat := if 97 ≤ c.toNat ∧ c.toNat ≤ 102 then some (c.toNat - 97) else none
def pValue : Nat → List UInt8 → List Int → PR
  | 0, _, _ => .bad 2
  | _ + 1, [], _ => .bad 2
  | f + 1, c :: r, o => match opOf c with
    | some k => (pValue f r o).andThen fun a l1 o1 => (pValue f l1 o1).andThen fun b l2 o2 => mk5 l2 o2 k 0 a b 0
    | none => if c = 35 then (match numOf (r.takeWhile isDig) with
        | some n => mk5 (r.dropWhile isDig) o 0 n 0 0 0
        | none => .bad 2)
      else match nameOf c with
        | some n => mk5 r o 1 n 0 0 0
        | none => .bad 2
def pWant (c : UInt8) (l : List UInt8) (o : List Int) (f : List UInt8 → List Int → PR) : PR := match l with
  | [] => .bad 2
  | x :: r => if x = c then f r o else .bad 2
def pBlock (L : List UInt8 → List Int → PR) (l : List UInt8) (o : List Int) : PR :=
  pWant 123 l o fun r o => (L r o).andThen fun i l1 o1 => pWant 125 l1 o1 fun l2 o2 => .good i l2 o2
def pOne (V L : List UInt8 → List Int → PR) (l : List UInt8) (o : List Int) : PR := match l with
  | [] => .bad 2
  | c :: r => if c = 63 then (V r o).andThen fun a l1 o1 => (pBlock L l1 o1).andThen fun b l2 o2 => (pBlock L l2 o2).andThen fun d l3 o3 => mk5 l3 o3 8 0 a b d
    else if c = 64 then (V r o).andThen fun a l1 o1 => (pBlock L l1 o1).andThen fun b l2 o2 => mk5 l2 o2 9 0 a b 0
    else match nameOf c with
      | some n => pWant 61 r o fun r1 o1 => (V r1 o1).andThen fun a l1 o2 => pWant 59 l1 o2 fun l2 o3 => mk5 l2 o3 6 n a 0 0
      | none => .bad 2
def endsL (l : List UInt8) : Bool := match l with
  | [] => true
  | c :: _ => c == 125
def pList : Nat → List UInt8 → List Int → PR
  | 0, _, _ => .bad 2
  | f + 1, l, o => if endsL l = true then mk5 l o 5 0 0 0 0
    else (pOne (pValue f) (pList f) l o).andThen fun a l1 o1 => if endsL l1 = true then .good a l1 o1 else (pList f l1 o1).andThen fun b l2 o2 => mk5 l2 o2 7 0 a b 0
/-- The text 'a=+b#2;'. -/
def factT : List UInt8 := [97, 61, 43, 98, 35, 50, 59]
theorem numOf_2 : numOf [50] = some 2 := by decide +kernel
theorem factT_read : pList 8 factT [] = .good 3 [] [1, 1, 0, 0, 0, 0, 2, 0, 0, 0, 2, 0, 0, 1, 0, 6, 0, 2, 0, 0] := by decide +kernel
end Go.Proofs.YtfpghfmdkbdojaaGreatDoor
