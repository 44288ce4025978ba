/- The bounds that a read integer keeps. -/
import Derived.Test.YtemlaliackblkaaDoorBase
import GoSem.Claim
namespace Go.Proofs.YtemlaliackblkaaDoor
theorem lit_wf {k : IntKind} {n : Int} (h : (Lit.int k n).wf = true) : k.min ≤ n ∧ n ≤ k.max := by
  unfold Lit.wf at h
  rw [Bool.and_eq_true, decide_eq_true_eq, decide_eq_true_eq] at h
  exact h
theorem u8_wf {n : Int} (h : (Lit.int .u8 n).wf = true) : 0 ≤ n ∧ n ≤ 255 := lit_wf h
theorem u16_wf {n : Int} (h : (Lit.int .u16 n).wf = true) : 0 ≤ n ∧ n ≤ 65535 := lit_wf h
end Go.Proofs.YtemlaliackblkaaDoor
