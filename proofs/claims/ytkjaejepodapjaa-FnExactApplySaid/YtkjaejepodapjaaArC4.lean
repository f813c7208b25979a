import Derived.Test.YtkjaejepodapjaaArC3
namespace Go.Ar
open Go.Proofs
set_option linter.unusedVariables false
set_option linter.unusedSimpArgs false
set_option maxRecDepth 20000

theorem MkB.of {k : Int} {n s : Nat} (h : n ≤ 8 * s) (h0 : 0 ≤ k) (h1 : k + 8 * s ≤ 1099511627776) : MkB k n := ⟨h0, by omega⟩
theorem setFs_size (bs : List BranchD) (s : StepD) : szL sizeBranch (setFs bs s) ≤ szL sizeBranch bs + sizeFs s.fs := by
  unfold setFs
  split
  · split
    · rename_i b hb
      have h1 := get_lt_len hb
      have e : bs = bs.take s.branch.toNat ++ b :: bs.drop (s.branch.toNat + 1) := by rw [← drop_at hb, List.take_append_drop]
      have hl : (bs.take s.branch.toNat).length = s.branch.toNat := by simp; omega
      generalize bs.take s.branch.toNat = a at e hl
      generalize bs.drop (s.branch.toNat + 1) = c at e
      rw [e, List.set_append_right _ _ (by omega), hl, Nat.sub_self, List.set_cons_zero]
      simp only [szL, sumS, List.length_append, List.length_cons, List.map_append, List.map_cons, List.sum_append, List.sum_cons, sizeBranch]
      omega
    · omega
  · omega
theorem foldFs_size : ∀ (l : List StepD) (bs : List BranchD), szL sizeBranch (l.foldl setFs bs) ≤ szL sizeBranch bs + szL sizeStep l
  | [], bs => by simp
  | s :: l, bs => by
    have h1 := foldFs_size l (setFs bs s)
    have h2 := setFs_size bs s
    have h3 : szL sizeStep (s :: l) = 1 + sizeFs s.fs + szL sizeStep l := by
      simp only [szL, sumS, List.map_cons, List.sum_cons, List.length_cons, sizeStep]; omega
    rw [List.foldl_cons, h3]; omega
theorem applyF_size (p : PoolD) (l : List StepD) : sizePool (applyF p l) ≤ sizePool p + szL sizeStep l := by
  have := foldFs_size l p.branches
  unfold sizePool applyF; dsimp only; omega
theorem ret_FnExactApply (p : PoolD) (l : List StepD) (hp : wfPool p) (hl : l.length ≤ maxLen ∧ ∀ y ∈ l, wfStep y) : Ret pg 3 true [.ag (poolC p), .sl .shr 3 (rows stepR l)] [] (.b true) := by
  refine ret_eq fun r hr => ?_
  refine ret0 Try.func3 rfl (by decide +kernel) rfl (hr ▸ trivial) (awF.go 60 [(14, [⟨false, [41, 42], [40]⟩, ⟨false, [40], [41]⟩, ⟨false, [40], [42]⟩, ⟨true, [], [43]⟩, ⟨true, [], [44]⟩])] (by decide +kernel) ?_)
  cbv; simp only [F]
  refine CallK.intro (ret_szPool p 1048576 hp (by omega) (by omega)) ?_
  generalize e1 : lessS 1048576 (sizePool p) = l1
  have q1 : IsLess 1048576 (sizePool p) l1 := e1
  clear e1
  cbv; simp only [F]
  split <;> (rename_i h; simp only [h]; cbv; simp only [F])
  · exact LeV.tb hr rfl
  have g1 := ge_zero h
  clear h
  have hs1 : sizePool p ≤ 1048576 := by have := (q1.pos g1).eq; omega
  have k1 : l1 ≤ 1048576 := (q1.pos g1).le (by omega)
  clear q1
  refine CallK.intro (ret_szStepS l l1 hl.1 hl.2 g1 k1) ?_
  generalize e2 : lessS l1 (szL sizeStep l) = l2
  have q2 : IsLess l1 (szL sizeStep l) l2 := e2
  clear e2
  cbv; simp only [F]
  split <;> (rename_i h; simp only [h]; cbv; simp only [F])
  · exact LeV.tb hr rfl
  have g2 := ge_zero h
  clear h
  have hs2 : szL sizeStep l ≤ 1048576 := by have := (q2.pos g2).eq; omega
  have hsw : sizePool (applyF p l) ≤ 2097152 := by have := applyF_size p l; omega
  clear q2 g2 k1 g1
  refine CallK.intro (ret_toPool p (by omega)) ?_
  cbv; simp only [F]
  refine CallK.intro (ret_toStepS l (by omega)) ?_
  cbv; simp only [F]
  refine CallK.intro (ret_ApplyS p l (by omega) (by omega)) ?_
  generalize hw : applyF p l = w at hsw ⊢
  cbv; simp only [F]
  refine CallK.intro (ret_toPool p (by omega)) ?_
  cbv; simp only [F]
  refine CallK.intro (ret_toStepS l (by omega)) ?_
  cbv; simp only [F]
  refine CallK.intro (ret_Apply p l (by omega) (by omega)) ?_
  rw [hw]
  cbv; simp only [F]
  refine CallK.intro (ret_eqPool w w (by omega)) ?_
  rw [decide_eq_true rfl]
  cbv; simp only [F]
  refine CallK.intro (ret_toPool p (by omega)) ?_
  cbv; simp only [F]
  refine CallK.intro (ret_eqPool p p (by omega)) ?_
  rw [decide_eq_true rfl]
  cbv; simp only [F]
  refine CallK.intro (ret_toStepS l (by omega)) ?_
  cbv; simp only [F]
  refine CallK.intro (ret_eqStepS l l (by omega)) ?_
  rw [decide_eq_true rfl]
  cbv; simp only [F]
  intro hv0
  cbv; simp only [F]
  refine CallMK.intro (ret_markPool hv0 _ _ p.branches _ _ _ _ _ _ _ 1 (MkB.of (csum_Branch _) (by omega) (by unfold sizePool at hs1; omega)) (by unfold sizePool at hs1; omega)) ?_
  generalize ek : 1 + (sumS cntBranch p.branches : Int) = k1
  have hk1 : IsAdd 1 (sumS cntBranch p.branches) k1 := isAdd ek
  clear ek
  generalize mkL cntBranch mkBranch 1 p.branches = m1
  cbv; simp only [F]
  intro hv1
  cbv; simp only [F]
  have hc1 := csum_Branch p.branches
  have hk1a : 1 ≤ k1 ∧ k1 ≤ 8388609 := by unfold IsAdd at hk1; unfold sizePool at hs1; omega
  refine CallMK.intro (ret_markStepS _ _ _ (MkB.of (csum_Step _) (by omega) (by omega)) (by omega)) ?_
  generalize ek : k1 + (sumS cntStep l : Int) = k2
  have hk2 : IsAdd k1 (sumS cntStep l) k2 := isAdd ek
  clear ek
  generalize mkL cntStep mkStep k1 l = m2
  have hk2a : 0 ≤ k2 := hk2.ge (by omega)
  have hk2b := ge_lss hk2a
  cbv; simp only [F]
  simp only [hk2b]
  cbv; simp only [F]
  refine CallK.intro (ret_eqPool w w (by omega)) ?_
  rw [decide_eq_true rfl]
  cbv; simp only [F]
  intro hv2
  cbv; simp only [F]
  have hwb : szL sizeBranch w.branches ≤ 2097152 := by unfold sizePool at hsw; omega
  have hB := MkB.of (k := 1) (csum_Branch w.branches) (by omega) (by omega)
  have hz : szL sizeBranch w.branches ≤ 68719476736 := by omega
  refine CallMK.intro (ret_markPool hv2 _ _ w.branches _ _ _ _ _ _ _ 1 hB hz) ?_
  generalize ek : 1 + (sumS cntBranch w.branches : Int) = k3
  have hk3 : IsAdd 1 (sumS cntBranch w.branches) k3 := isAdd ek
  clear ek
  generalize hm3 : mkL cntBranch mkBranch 1 w.branches = m3
  have hk3a : 0 ≤ k3 := hk3.ge (by omega)
  have hk3b := ge_lss hk3a
  cbv; simp only [F]
  rw [← hm3]
  refine CallK.intro (ret_heldPool _ _ w.branches _ _ _ _ _ _ _ 1 hB hz) ?_
  rw [hm3, show (1 + (sumS cntBranch w.branches : Nat) : Int) = k3 from Eq.symm hk3]
  cbv; simp only [F]
  simp only [hk3b]
  cbv; simp only [F]
  simp only [neq_self]
  cbv; simp only [F]
  refine CallK.intro (ret_toPool p (by omega)) ?_
  cbv; simp only [F]
  refine CallK.intro (ret_toStepS l (by omega)) ?_
  cbv; simp only [F]
  refine CallK.intro (ret_Apply p l (by omega) (by omega)) ?_
  rw [hw]
  cbv; simp only [F]
  refine CallK.intro (ret_eqPool w w (by omega)) ?_
  rw [decide_eq_true rfl]
  cbv; simp only [F]
  rw [← hm3]
  refine CallK.intro (ret_heldPool _ _ w.branches _ _ _ _ _ _ _ 1 hB hz) ?_
  rw [hm3, show (1 + (sumS cntBranch w.branches : Nat) : Int) = k3 from Eq.symm hk3]
  cbv; simp only [F]
  simp only [hk3b]
  cbv; simp only [F]
  simp only [neq_self]
  cbv; simp only [F]
  exact LeV.tb hr rfl
end Go.Ar
