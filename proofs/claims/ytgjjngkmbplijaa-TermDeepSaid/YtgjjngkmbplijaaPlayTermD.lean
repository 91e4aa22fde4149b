/- Package play: a contract of api's of its tree: all cases. -/
import Derived.Test.YtgjjngkmbplijaaPlayTermB
import Derived.Test.YtgjjngkmbplijaaPlayTermC
namespace Go.Proofs.Ytgjjngkmbplijaa
theorem pterm_at {t : Tr} {o : Te} (h : IsTe t o) : TeAt t o := by
  induction h with
  | zero s n k => exact pterm_zero s n k
  | one s n k => exact pterm_one s n k
  | give s n l a _ ih => exact pterm_give s n l a ih
  | and s n l r a b _ _ ih1 ih2 => exact pterm_and s n l r a b ih1 ih2
  | or s n l r a b _ _ ih1 ih2 => exact pterm_or s n l r a b ih1 ih2
  | scale s n l r a b ho _ ih => exact pterm_scale s n l r a b ho ih
  | whn s n l a _ ih => exact pterm_whn s n l a ih
  | cond s n o l r x a b ho _ _ ih1 ih2 => exact pterm_cond s n o l r x a b ho ih1 ih2
  | none kd s n k hk => exact pterm_none kd s n k hk

end Go.Proofs.Ytgjjngkmbplijaa
