/-
  A node is just one tree. Plain laws.
-/
import Derived.Test.YtdgncngkalgknaaDoorPgFlat
namespace Go.Proofs.YtdgncngkalgknaaDoor
set_option linter.unusedVariables false

theorem IsEx.one {P : List Int} {i : Nat} {e : Ex} (h : IsEx P i e) : ∀ {e' : Ex}, IsEx P i e' → e = e' := by
  induction h with
  | @num i m h0 h1 h2 =>
    intro e' h'
    cases h' with
    | @num _ m' g0 g1 g2 => obtain rfl : m = m' := by omega
                            rfl
    | var g0 => omega
    | op k2 k4 g0 => omega
  | @var i m h0 h1 h2 =>
    intro e' h'
    cases h' with
    | num g0 => omega
    | @var _ m' g0 g1 g2 => obtain rfl : m = m' := by omega
                            rfl
    | op k2 k4 g0 => omega
  | @op i k a b x y k2 k4 h0 h2 h3 la lb ha hb iha ihb =>
    intro e' h'
    cases h' with
    | num g0 => omega
    | var g0 => omega
    | @op _ k' a' b' x' y' k2' k4' g0 g2 g3 la' lb' ha' hb' =>
      obtain rfl : k = k' := by omega
      obtain rfl : a = a' := by omega
      obtain rfl : b = b' := by omega
      rw [iha ha', ihb hb']
theorem IsSt.one {P : List Int} {i : Nat} {s : St} (h : IsSt P i s) : ∀ {s' : St}, IsSt P i s' → s = s' := by
  induction h with
  | skip h0 => intro s' h'; cases h' <;> first | rfl | omega
  | @set i m a x h0 h1 h2 h3 h4 h5 =>
    intro s' h'
    cases h' with
    | @set _ m' a' x' g0 g1 g2 g3 g4 g5 =>
      obtain rfl : m = m' := by omega
      obtain rfl : a = a' := by omega
      rw [h5.one g5]
    | skip g0 => omega
    | both g0 => omega
    | ite g0 => omega
    | loop g0 => omega
  | @both i a b x y h0 h1 h2 h3 h4 ha hb iha ihb =>
    intro s' h'
    cases h' with
    | @both _ a' b' x' y' g0 g1 g2 g3 g4 ga gb =>
      obtain rfl : a = a' := by omega
      obtain rfl : b = b' := by omega
      rw [iha ga, ihb gb]
    | skip g0 => omega
    | set g0 => omega
    | ite g0 => omega
    | loop g0 => omega
  | @ite i a b c x y z h0 h1 h2 h3 h4 h5 h6 hx ha hb iha ihb =>
    intro s' h'
    cases h' with
    | @ite _ a' b' c' x' y' z' g0 g1 g2 g3 g4 g5 g6 gx ga gb =>
      obtain rfl : a = a' := by omega
      obtain rfl : b = b' := by omega
      obtain rfl : c = c' := by omega
      rw [hx.one gx, iha ga, ihb gb]
    | skip g0 => omega
    | set g0 => omega
    | both g0 => omega
    | loop g0 => omega
  | @loop i a b x y h0 h1 h2 h3 h4 hx ha iha =>
    intro s' h'
    cases h' with
    | @loop _ a' b' x' y' g0 g1 g2 g3 g4 gx ga =>
      obtain rfl : a = a' := by omega
      obtain rfl : b = b' := by omega
      rw [hx.one gx, iha ga]
    | skip g0 => omega
    | set g0 => omega
    | both g0 => omega
    | ite g0 => omega

end Go.Proofs.YtdgncngkalgknaaDoor
