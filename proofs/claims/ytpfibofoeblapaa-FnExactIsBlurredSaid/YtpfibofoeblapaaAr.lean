/- Numbers in loops. -/
import Derived.Test.YtpfibofoeblapaaSd
import Derived.Test.YtpfibofoeblapaaPB
namespace Go.Proofs.Ytpfibofoeblapaa
open Go
theorem wi_succ (k : Nat) (h : k ≤ 1000000000000) : wi ((k : Int) + 1) = ((k + 1 : Nat) : Int) := by rw [wi_in _ (by omega)]; omega
theorem cl {a b : Nat} (h : a < b) : (a : Int) < (b : Int) := by omega
theorem c0 (a : Nat) : (0 : Int) ≤ (a : Int) := by omega
theorem f_l1In (a lo hi : Int) : F_spec_l1In a lo hi = some (decide (lo ≤ a ∧ a ≤ hi)) := by
  unfold F_spec_l1In
  by_cases h : a ≥ lo
  · rw [if_pos h]; simp [show lo ≤ a from h]
  · rw [if_neg h]; simp; omega
theorem f_within (a lo hi : Int) : F_impl_within a lo hi = some (decide (lo ≤ a ∧ a ≤ hi)) := by
  unfold F_impl_within
  by_cases h : lo ≤ a
  · rw [if_pos h]; simp [h]
  · rw [if_neg h]; simp; omega
theorem nn_le {n : Nat} (hn : n ≤ 10) : n * n ≤ 100 := Nat.mul_le_mul hn hn
theorem wi_nn {n : Nat} (hn : n ≤ 10) : wi ((n : Int) * (n : Int)) = ((n * n : Nat) : Int) := by
  have h2 := nn_le hn
  have e : ((n : Int) * (n : Int)) = ((n * n : Nat) : Int) := by simp
  rw [e, wi_in _ (by omega)]
end Go.Proofs.Ytpfibofoeblapaa
