/- The bounds that a read integer keeps. -/
import Derived.Test.YtplblogdgbnbdaaDoorBase
import GoSem.Claim
namespace Go.Proofs.YtplblogdgbnbdaaDoor
theorem lit_wf {k : IntKind} {n : Int} (h : (Lit.int k n).wf = true) : k.min ≤ n ∧ n ≤ k.max := by
  unfold Lit.wf at h
  rw [Bool.and_eq_true, decide_eq_true_eq, decide_eq_true_eq] at h
  exact h
theorem u8_wf {n : Int} (h : (Lit.int .u8 n).wf = true) : 0 ≤ n ∧ n ≤ 255 := lit_wf h
theorem i8_wf {n : Int} (h : (Lit.int .i8 n).wf = true) : -128 ≤ n ∧ n ≤ 127 := lit_wf h
theorem i64_wf {n : Int} (h : (Lit.int .i64 n).wf = true) : I64 n := lit_wf h
end Go.Proofs.YtplblogdgbnbdaaDoor
