import Derived.Test.YtjfhbbjcpbfncaaArGt
namespace Go.Ar
open Go.Proofs
set_option linter.unusedVariables false
set_option linter.unusedSimpArgs false
set_option maxRecDepth 20000

theorem MkB.of {k : Int} {n s : Nat} (h : n ≤ 8 * s) (h0 : 0 ≤ k) (h1 : k + 8 * s ≤ 1099511627776) : MkB k n := ⟨h0, by omega⟩
theorem szL_le (l : List (List UInt8)) (n : Nat) (h : ∀ s ∈ l, s.length ≤ n) : szL List.length l ≤ (n + 1) * l.length := by
  induction l with
  | nil => simp [szL, sumS]
  | cons x l ih =>
    have h1 := h x (by simp)
    have h2 := ih fun y hy => h y (by simp [hy])
    simp only [szL, sumS, List.map_cons, List.sum_cons, List.length_cons, Nat.mul_add] at h2 ⊢
    omega
end Go.Ar
