/- For every string, the program's PolicyOf and the reference's PolicyOf return the same number, so the law returns true. No condition. -/
import Derived.Test.YtioelbfjiokoaaaPFnExactPolicyOfx1
namespace Go.Proofs.Ytioelbfjiokoaaa.Pure
open Go.RowKit Go.Proofs.Ytioelbfjiokoaaa.PFnExactPolicyOf Go.Proofs.YtioelbfjiokoaaaW.PrintWords Go.Proofs.YtioelbfjiokoaaaW.PrintLast

theorem policyScan (s : ByteArray) (xs : List ByteArray) (hx : xs.length ≤ 100) : ∀ (d k : Nat) (i : Int), 0 ≤ i → i + d = xs.length → d < k →
    ∃ r, spec_PolicyOf.l0 k s xs i = some r ∧ slices_Index_string_string.l0 k xs s xs.length i = some r := by
  intro d
  induction d with
  | zero =>
    intro k i h0 h1 hk
    obtain ⟨k, rfl⟩ : ∃ m, k = m + 1 := ⟨k - 1, by omega⟩
    refine ⟨-1, ?_, ?_⟩
    · simp only [spec_PolicyOf.l0]; rw [if_neg (by omega)]
    · simp only [slices_Index_string_string.l0]; rw [if_neg (by omega)]
  | succ d ih =>
    intro k i h0 h1 hk
    obtain ⟨k, rfl⟩ : ∃ m, k = m + 1 := ⟨k - 1, by omega⟩
    have hlt : i < (xs.length : Int) := by omega
    have hw : wrap64 (i + 1) = i + 1 := by unfold wrap64; omega
    by_cases e : (rdOf ByteArray.empty xs i).toList = s.toList
    · refine ⟨i, ?_, ?_⟩
      · simp only [spec_PolicyOf.l0]; rw [if_pos hlt, if_pos h0, if_pos e]
      · simp only [slices_Index_string_string.l0]; rw [if_pos hlt, if_pos h0, if_pos hlt, if_pos e.symm]
    · obtain ⟨r, hr, hr'⟩ := ih k (i + 1) (by omega) (by omega) (by omega)
      refine ⟨r, ?_, ?_⟩
      · simp only [spec_PolicyOf.l0]; rw [if_pos hlt, if_pos h0, if_neg e, hw]; exact hr
      · simp only [slices_Index_string_string.l0]; rw [if_pos hlt, if_pos h0, if_pos hlt, if_neg (fun h => e h.symm), hw]; exact hr'

theorem FnExactPolicyOf : laws_FnExactPolicyOf.Pure := by
  intro s hn
  refine ⟨7, ?_⟩
  obtain ⟨xs, hxs, hl⟩ : ∃ xs, impl_policyNames.f = some xs ∧ xs.length = 6 := ⟨_, rfl, rfl⟩
  have hs : spec_l13Names.f = some xs := by rw [← hxs]; rfl
  obtain ⟨r, h1, h2⟩ := policyScan s xs (by omega) 6 7 0 (by omega) (by omega) (by omega)
  unfold laws_FnExactPolicyOf.f spec_PolicyOf.f impl_PolicyOf.f slices_Index_string_string.f
  rw [hs, hxs]
  simp only [Option.bind_some]
  rw [h1, h2]
  simp only [Option.bind_some, if_true, ite_self]

end Go.Proofs.Ytioelbfjiokoaaa.Pure
