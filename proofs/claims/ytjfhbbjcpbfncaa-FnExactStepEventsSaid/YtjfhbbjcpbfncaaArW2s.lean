import Derived.Test.YtjfhbbjcpbfncaaArLb
import Derived.Test.YtjfhbbjcpbfncaaArW0
namespace Go.Ar
open Go.Proofs
set_option linter.unusedVariables false
set_option linter.unusedSimpArgs false
set_option maxRecDepth 20000

theorem szL_leE (l : List EventD) (n : Nat) (h : ∀ s ∈ l, s.data.length ≤ n) : szL sizeEvent l ≤ (n + 1) * l.length := by
  induction l with
  | nil => simp [szL, sumS]
  | cons x l ih =>
    have h1 := h x (by simp)
    have h2 := ih fun y hy => h y (by simp [hy])
    simp only [szL, sumS, List.map_cons, List.sum_cons, List.length_cons, Nat.mul_add, sizeEvent] at h2 ⊢
    omega
theorem pre1_mem : ∀ (l : List PutD) (k : Nat) (e : EventD), e ∈ pre1 k l → ∃ w ∈ l, e.data = w.data
  | [], k, e, h => by cases h
  | w :: l, k, e, h => by
    simp only [pre1, List.mem_cons] at h
    rcases h with rfl | h
    · exact ⟨w, by simp, rfl⟩
    · obtain ⟨v, hv, e⟩ := pre1_mem l (k + 1) e h
      exact ⟨v, by simp [hv], e⟩
theorem commit_size (n : Int) (l : List PutD) (hl : l.length ≤ 200) : szL sizeEvent (commit n l) ≤ 4000000 := by
  unfold commit
  split
  · rename_i h
    have hd : ∀ w ∈ l, w.data.length ≤ 90 := fun w hw => by
      obtain ⟨i, hi⟩ := List.mem_iff_getElem?.1 hw
      exact (h.rng i w hi).2
    have hh := headText_len l hl
    have hp := pre1_len l 0
    refine Nat.le_trans (szL_leE _ 1010 fun s hs => ?_) (by simp only [List.length_append, List.length_map, List.length_cons, List.length_nil]; omega)
    simp only [List.mem_append, List.mem_cons, List.not_mem_nil, or_false, List.mem_map] at hs
    rcases hs with (((h1 | h1 | h1 | h1) | ⟨w, hw, h1⟩) | h1 | h1 | h1)
    · obtain ⟨w, hw, e⟩ := pre1_mem _ _ _ h1
      rw [e]; have := hd w hw; omega
    · rw [h1]; simp [evf]
    · rw [h1]; simpa [evw] using hh
    · rw [h1]; simp [evf]
    · rw [← h1]; have := hd w hw; simp only [evw]; omega
    · rw [h1]; simp [evf]
    · rw [h1]; simp [evw]
    · rw [h1]; simp [evf]
  · simp [szL, sumS]
theorem stepEvents_size (p : PoolD) (s : StepD) : szL sizeEvent (stepEvents p s) ≤ 4000000 := by
  unfold stepEvents
  split
  · split
    · split
      · exact commit_size _ _ (by have := diff_len (by assumption : BranchD).fs s.fs; omega)
      · simp [szL, sumS]
    · simp [szL, sumS]
  · simp [szL, sumS]
end Go.Ar
