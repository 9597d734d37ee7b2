/-
  The walk of GrantSays, all ways.
-/
import Derived.Test.YtdnkknggnhihgaaDoorGrantSays2
namespace Go.Proofs.YtdnkknggnhihgaaDoor
open Go.RowKit

theorem GrantSays_walk (users : Int) {W : World} (bu : I64 users) (n : Nat) (G : List Int) (A : Option Addr) (c : Nat) (hl : G.length = n * 3) (h : IntsAt W A G) (s3 : n * 3 < 2 ^ 47) (bG : ∀ x ∈ G, I64 x) (hcap : n ≤ c) (fr : Int) (bf : I64 fr) (to : Int) (bt : I64 to) (w : World) (hw : w = W) (hE : ErrT W) :
    Calls Tryd.prog 9 #[.int .i64 users, .slice A n c, .int .i64 fr, .int .i64 to] w fun e w' => e = .returned (.bool true) ∧ Below W.heap.size W w' := by
  subst hw
  by_cases hz : gCode users G n = 0
  · by_cases t1 : to < 0
    · by_cases f1 : fr < 0
      · exact GrantSays_neg_neg users n G A c w hl h s3 hcap fr to hz t1 f1 hE
      · by_cases f2 : users ≤ fr
        · exact GrantSays_neg_big users n G A c w hl h s3 hcap fr to hz t1 f2 hE
        · exact GrantSays_neg_in users n G A c w hl h s3 hcap fr to hz t1 ⟨by omega, by omega⟩ hE
    · by_cases t2 : users ≤ to
      · by_cases f1 : fr < 0
        · exact GrantSays_big_neg users n G A c w hl h s3 hcap fr to hz t2 f1 hE
        · by_cases f2 : users ≤ fr
          · exact GrantSays_big_big users n G A c w hl h s3 hcap fr to hz t2 f2 hE
          · exact GrantSays_big_in users n G A c w hl h s3 hcap fr to hz t2 ⟨by omega, by omega⟩ hE
      · have ht : 0 ≤ to ∧ to < users := ⟨by omega, by omega⟩
        cases hh : gHeld G n to with
        | false =>
          by_cases f1 : fr < 0
          · exact GrantSays_no_neg users n G A c w hl h s3 hcap fr to hz ht hh f1 hE
          · by_cases f2 : users ≤ fr
            · exact GrantSays_no_big users n G A c w hl h s3 hcap fr to hz ht hh f2 hE
            · cases ha : (List.range n).any (gP G fr to) with
              | false => exact GrantSays_no_none users n G A c w hl h s3 hcap fr to hz ht hh ⟨by omega, by omega⟩ ha hE
              | true => exact GrantSays_no_found users n G A c w hl h s3 hcap fr to hz ht hh ⟨by omega, by omega⟩ ha hE
        | true =>
          by_cases f1 : fr < 0
          · exact GrantSays_yes_neg users n G A c w hl h s3 hcap fr to hz ht hh f1 hE
          · by_cases f2 : users ≤ fr
            · exact GrantSays_yes_big users n G A c w hl h s3 hcap fr to hz ht hh f2 hE
            · cases ha : (List.range n).any (gP G fr to) with
              | false => exact GrantSays_yes_none users n G A c w hl h s3 hcap fr to hz ht hh ⟨by omega, by omega⟩ ha hE
              | true => exact GrantSays_yes_found users n G A c w hl h s3 hcap fr to hz ht hh ⟨by omega, by omega⟩ ha hE
  · exact GrantSays_bad users n G A c w hl h s3 hcap fr to rfl hz hE
end Go.Proofs.YtdnkknggnhihgaaDoor
