import Derived.Test.YthbgpgfloghnoaaGreatArPl
namespace Go.Ar
open Go.Proofs
set_option linter.unusedVariables false
set_option linter.unusedSimpArgs false
set_option maxRecDepth 20000
theorem sumS_int (l : List Int) : sumS szInt l = 0 := by
 induction l with
 | nil => rfl
 | cons x l ih => simp only [sumS, List.map_cons, List.sum_cons] at ih ⊢; rw [ih]; rfl
theorem elig_size (P : PoolD) (ex : Int) : szL szInt (eligF P ex) ≤ 4000000 := by
 unfold szL
 rw [sumS_int]
 unfold eligF
 split
 ·rename_i h
  have h1 := eligN_len P ex P.branches.length
  have h2 := h.num
  omega
 ·simp
end Go.Ar
