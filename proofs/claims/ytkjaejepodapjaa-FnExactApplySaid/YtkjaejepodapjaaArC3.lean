import Derived.Test.YtkjaejepodapjaaArC2
namespace Go.Ar
open Go.Proofs
set_option linter.unusedVariables false
set_option linter.unusedSimpArgs false
set_option maxRecDepth 20000

def withinF (n lo hi : Int) : Bool := decide (lo ≤ n) && decide (n ≤ hi)
theorem withinF_iff {n lo hi : Int} : withinF n lo hi = true ↔ lo ≤ n ∧ n ≤ hi := by simp [withinF]
theorem withinF_not {n lo hi : Int} (h : withinF n lo hi = false) : n < lo ∨ hi < n := by simp [withinF] at h; omega
theorem ret_within (n lo hi : Int) : Ret pg 43 true [.i .i64 n, .i .i64 lo, .i .i64 hi] [] (.b (withinF n lo hi)) := by
  generalize hr : V.b (withinF n lo hi) = r
  refine ret0 Try.func43 rfl (by decide +kernel) rfl (hr ▸ trivial) ?_
  cbv
  simp only [F]
  split <;> (rename_i h; simp only [h]; cbv; simp only [F]; refine LeV.tb hr ?_; simp only [icmp_geq, icmp_leq] at h ⊢; simp [withinF, h])
theorem ret_l1In (n lo hi : Int) : Ret pg 38 true [.i .i64 n, .i .i64 lo, .i .i64 hi] [] (.b (withinF n lo hi)) := by
  generalize hr : V.b (withinF n lo hi) = r
  refine ret0 Try.func38 rfl (by decide +kernel) rfl (hr ▸ trivial) ?_
  cbv
  simp only [F]
  split <;> (rename_i h; simp only [h]; cbv; simp only [F]; refine LeV.tb hr ?_; simp only [icmp_geq, icmp_leq] at h ⊢; simp [withinF, h])

/-- A step's file system comes onto its branch. -/
def setFs (bs : List BranchD) (s : StepD) : List BranchD :=
  if 0 ≤ s.branch then (match bs[s.branch.toNat]? with | some b => bs.set s.branch.toNat ⟨b.mode, s.fs⟩ | none => bs) else bs
def applyF (p : PoolD) (l : List StepD) : PoolD := { p with branches := l.foldl setFs p.branches }
theorem setFs_len (bs : List BranchD) (s : StepD) : (setFs bs s).length = bs.length := by
  unfold setFs
  split
  · split <;> simp
  · rfl
theorem foldFs_len : ∀ (l : List StepD) (bs : List BranchD), (l.foldl setFs bs).length = bs.length
  | [], _ => rfl
  | s :: l, bs => by rw [List.foldl_cons, foldFs_len l, setFs_len]
theorem setFs_out {bs : List BranchD} {s : StepD} {d : Int} (hd : d = (bs.length : Int) - 1) (h : withinF s.branch 0 d = false) : setFs bs s = bs := by
  unfold setFs
  rcases withinF_not h with h | h
  · rw [if_neg (by omega)]
  · split
    · rw [List.getElem?_eq_none (by omega)]
    · rfl
theorem setFs_in {bs : List BranchD} {s : StepD} {b : BranchD} (h : 0 ≤ s.branch) (hb : bs[s.branch.toNat]? = some b) : setFs bs s = bs.set s.branch.toNat ⟨b.mode, s.fs⟩ := by
  unfold setFs; rw [if_pos h, hb]
theorem in_branch {bs : List BranchD} {n d : Int} (hd : d = (bs.length : Int) - 1) (h : withinF n 0 d = true) : 0 ≤ n ∧ ∃ b, bs[n.toNat]? = some b := by
  obtain ⟨h1, h2⟩ := withinF_iff.1 h
  exact ⟨h1, get_lt (by omega)⟩
theorem len_sub1 {α : Type} {f : α → List V} {l : List α} {d : Int} (e : iop .sub .i64 (llen (rows f l)) 1 = d) (h : l.length ≤ 68719476736) : d = (l.length : Int) - 1 := by
  rw [← e, iop_sub, llen_rows, wrap_i64 (by omega) (by omega)]
theorem at_rowsZ {α : Type} {f : α → List V} {l : List α} {n : Int} {x : α} (h0 : 0 ≤ n) (h : l[n.toNat]? = some x) : InR n (llen (rows f l)) ∧ at_ (rows f l) n = some (f x) := by
  refine ⟨?_, at_rows h0 h⟩
  have := get_lt_len h
  rw [InR_eq, llen_rows]; omega
theorem fold_snoc {l : List StepD} {i : Nat} {s : StepD} (bs : List BranchD) (h : l[i]? = some s) : (l.take (i + 1)).foldl setFs bs = setFs ((l.take i).foldl setFs bs) s := by
  rw [take_snoc h, List.foldl_append]; rfl
theorem ret_Apply (p : PoolD) (l : List StepD) (hp : sizePool p ≤ 68719476736) (hl : szL sizeStep l ≤ 68719476736) : Ret pg 11 true [.ag (poolC p), .sl .shr 3 (rows stepR l)] [] (.ag (poolR (applyF p l))) := by
  refine ret_eq fun r hr => ?_
  have hll := Nat.le_trans (szL_len sizeStep l) hl
  have hbl : p.branches.length ≤ 68719476736 := by have := szL_len sizeBranch p.branches; unfold sizePool at hp; omega
  refine ret0 Try.func11 rfl (by decide +kernel) rfl (hr ▸ own_poolR _) (awF.go 20 [(6, [⟨true, [], [23]⟩, ⟨false, [25, 26, 27, 28, 29], [24]⟩, ⟨false, [24], [25]⟩, ⟨false, [24, 27, 28, 29], [26]⟩, ⟨false, [24, 26], [27]⟩, ⟨false, [24, 26], [28]⟩, ⟨false, [24, 26], [29]⟩, ⟨true, [], [30]⟩, ⟨true, [], [31]⟩, ⟨true, [], []⟩])] (by decide +kernel) ?_)
  cbv; simp only [F]
  refine CallK.intro (ret_clonePool p hp) ?_
  cbv; simp only [F]
  refine LoopK.intro (α := Nat) [4, 5, 10, 11, 12] [4, 5] (fun i => [(12, .i .i64 i)]) (fun i => [(5, poolR { p with branches := (l.take i).foldl setFs p.branches })]) (fun n i => n = l.length - i ∧ i ≤ l.length) ⟨_, 0, ⟨rfl, by omega⟩, by simp only [poolR, List.take_zero, List.foldl_nil]; rfl⟩ fun n i hi => ?_
  obtain ⟨rfl, hi⟩ := hi
  generalize hx : (l.take i).foldl setFs p.branches = q
  have hql : q.length ≤ 68719476736 := by rw [← hx, foldFs_len]; exact hbl
  cbv; simp only [F]
  split <;> (rename_i h; simp only [h]; cbv; simp only [F])
  · have h' := lt_llen h
    clear h
    obtain ⟨y, hy⟩ := get_lt h'
    have hyb : sizeFs y.fs ≤ 68719476736 := by have := szL_at sizeStep hy; unfold sizeStep at *; omega
    refine ⟨inr_rowsN hy, _, at_rowsN hy, ?_⟩
    cbv; simp only [F]
    generalize e1 : iop .sub .i64 (llen (rows branchR q)) 1 = d
    have hd := len_sub1 e1 hql
    clear e1
    refine CallK.intro (ret_within y.branch 0 d) ?_
    generalize hw : withinF y.branch 0 d = b
    cases b <;> cbv <;> simp only [F]
    · refine ⟨_, i + 1, ⟨Nat.sub_succ_lt_self _ _ h', rfl, h'⟩, ?_⟩
      rw [fold_snoc _ hy, hx, setFs_out hd hw, add_one h' (by omega)]; rfl
    · obtain ⟨h0, b, hb⟩ := in_branch hd hw
      refine CallK.intro (ret_cloneFs y.fs hyb) ?_
      cbv; simp only [F]
      refine ⟨(at_rowsZ h0 hb).1, _, (at_rowsZ h0 hb).2, ?_⟩
      cbv; simp only [F]
      refine ⟨_, i + 1, ⟨Nat.sub_succ_lt_self _ _ h', rfl, h'⟩, ?_⟩
      rw [fold_snoc _ hy, hx, setFs_in h0 hb, add_one h' (by omega)]
      rw [show [V.i IntKind.i64 b.mode, V.sl .own 5 (rows nodeR y.fs.nodes), V.sl .own 1 (rows strR y.fs.data)] = branchR ⟨b.mode, y.fs⟩ from rfl, setAt_rows]
      rfl
  · have h' := ge_llen h
    rw [List.take_of_length_le h'] at hx
    subst hx
    exact LeV.to hr (LeF.rfl' _)
theorem ret_ApplyS (p : PoolD) (l : List StepD) (hp : sizePool p ≤ 68719476736) (hl : szL sizeStep l ≤ 68719476736) : Ret pg 8 true [.ag (poolC p), .sl .shr 3 (rows stepR l)] [] (.ag (poolR (applyF p l))) := by
  refine ret_eq fun r hr => ?_
  have hll := Nat.le_trans (szL_len sizeStep l) hl
  have hbl : p.branches.length ≤ 68719476736 := by have := szL_len sizeBranch p.branches; unfold sizePool at hp; omega
  refine ret0 Try.func8 rfl (by decide +kernel) rfl (hr ▸ own_poolR _) (awF.go 20 [(5, [⟨true, [], [15]⟩, ⟨true, [], [16]⟩, ⟨false, [20, 21, 22, 23], [17]⟩, ⟨false, [20, 21, 22, 23], [18]⟩, ⟨false, [20, 21, 22, 23], [19]⟩, ⟨false, [17, 18, 19], [20]⟩, ⟨false, [17, 18, 19], [21]⟩, ⟨false, [17, 18, 19], [22]⟩, ⟨false, [17, 18, 19], [23]⟩, ⟨true, [], [24]⟩]), (6, [⟨true, [], [25]⟩, ⟨false, [27, 28, 29, 30, 31, 32, 33, 34, 35, 36, 37], [26]⟩, ⟨false, [26], [27]⟩, ⟨false, [26], [28]⟩, ⟨false, [26, 32, 33, 34, 35, 36, 37], [29]⟩, ⟨false, [26, 32, 33, 34, 35, 36, 37], [30]⟩, ⟨false, [26, 32, 33, 34, 35, 36, 37], [31]⟩, ⟨false, [26, 29, 30, 31], [32]⟩, ⟨false, [26, 29, 30, 31], [33]⟩, ⟨false, [26, 29, 30, 31], [34]⟩, ⟨false, [26, 29, 30, 31], [35]⟩, ⟨false, [26, 29, 30, 31], [36]⟩, ⟨false, [26, 29, 30, 31], [37]⟩, ⟨true, [], [38]⟩, ⟨true, [], [39]⟩, ⟨true, [], []⟩])] (by decide +kernel) ?_)
  cbv; simp only [F]
  refine CallK.intro (ret_l12Copy p hp) ?_
  cbv; simp only [F]
  refine LoopK.intro (α := Nat) [1, 4, 5, 6] [4, 5] (fun i => [(6, .i .i64 i)]) (fun i => [(5, poolR { p with branches := (l.take i).foldl setFs p.branches })]) (fun n i => n = l.length - i ∧ i ≤ l.length) ⟨_, 0, ⟨rfl, by omega⟩, by simp only [poolR, List.take_zero, List.foldl_nil]; rfl⟩ fun n i hi => ?_
  obtain ⟨rfl, hi⟩ := hi
  generalize hx : (l.take i).foldl setFs p.branches = q
  have hql : q.length ≤ 68719476736 := by rw [← hx, foldFs_len]; exact hbl
  cbv; simp only [F]
  split <;> (rename_i h; simp only [h]; cbv; simp only [F])
  · have h' := lt_llen h
    clear h
    obtain ⟨y, hy⟩ := get_lt h'
    have hyb : sizeFs y.fs ≤ 68719476736 := by have := szL_at sizeStep hy; unfold sizeStep at *; omega
    refine ⟨inr_rowsN hy, _, at_rowsN hy, ?_⟩
    cbv; simp only [F]
    generalize e1 : iop .sub .i64 (llen (rows branchR q)) 1 = d
    have hd := len_sub1 e1 hql
    clear e1
    refine CallK.intro (ret_l1In y.branch 0 d) ?_
    generalize hw : withinF y.branch 0 d = b
    cases b <;> cbv <;> simp only [F]
    · refine ⟨_, i + 1, ⟨Nat.sub_succ_lt_self _ _ h', rfl, h'⟩, ?_⟩
      rw [fold_snoc _ hy, hx, setFs_out hd hw, add_one h' (by omega)]; rfl
    · obtain ⟨h0, b, hb⟩ := in_branch hd hw
      refine ⟨inr_rowsN hy, _, at_rowsN hy, ?_⟩
      cbv; simp only [F]
      refine ⟨inr_rowsN hy, _, at_rowsN hy, ?_⟩
      cbv; simp only [F]
      refine CallK.intro (ret_l6Copy y.fs hyb) ?_
      cbv; simp only [F]
      refine ⟨(at_rowsZ h0 hb).1, _, (at_rowsZ h0 hb).2, ?_⟩
      cbv; simp only [F]
      refine ⟨_, i + 1, ⟨Nat.sub_succ_lt_self _ _ h', rfl, h'⟩, ?_⟩
      rw [fold_snoc _ hy, hx, setFs_in h0 hb, add_one h' (by omega)]
      rw [show [V.i IntKind.i64 b.mode, V.sl .own 5 (rows nodeR y.fs.nodes), V.sl .own 1 (rows strR y.fs.data)] = branchR ⟨b.mode, y.fs⟩ from rfl, setAt_rows]
      rfl
  · have h' := ge_llen h
    rw [List.take_of_length_le h'] at hx
    subst hx
    exact LeV.to hr (LeF.rfl' _)
end Go.Ar
