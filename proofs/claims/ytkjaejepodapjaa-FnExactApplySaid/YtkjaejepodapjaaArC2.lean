import Derived.Test.YtkjaejepodapjaaArC1
namespace Go.Ar
open Go.Proofs
set_option linter.unusedVariables false
set_option linter.unusedSimpArgs false
set_option maxRecDepth 20000

theorem ret_clonePool (x : PoolD) (hb : sizePool x ≤ 68719476736) : Ret pg 42 true [.ag (poolC x)] [] (.ag (poolR x)) := by
  refine ret_eq fun r hr => ?_
  have hn : szL sizeBranch x.branches ≤ 68719476736 := by unfold sizePool at hb; omega
  have hnl := Nat.le_trans (szL_len sizeBranch x.branches) hn
  refine ret0 Try.func42 rfl (by decide +kernel) rfl (hr ▸ own_poolR _) (awF.go 20 [(6, [⟨true, [], [15]⟩, ⟨false, [17, 18, 19, 20, 21, 18, 21, 22, 22, 23], [16]⟩, ⟨false, [16], [17]⟩, ⟨false, [16, 19, 20, 21], [18]⟩, ⟨false, [16, 18], [19]⟩, ⟨false, [16, 18], [20]⟩, ⟨false, [16, 18], [21]⟩, ⟨false, [16], [18, 21, 22]⟩, ⟨false, [16], [22, 23]⟩, ⟨true, [], [24]⟩, ⟨true, [], [25]⟩, ⟨true, [], []⟩])] (by decide +kernel) ?_)
  cbv; simp only [F]
  refine LoopK.intro (α := Nat) [2, 3, 9, 10, 11] [2, 3] (fun i => [(11, .i .i64 i)]) (fun i => [(3, poolR { x with branches := x.branches.take i })]) (fun n i => n = x.branches.length - i ∧ i ≤ x.branches.length) ⟨_, 0, ⟨rfl, by omega⟩, by simp only [poolR, List.take_zero, rows_nil]; rfl⟩ fun n i hi => ?_
  obtain ⟨rfl, hi⟩ := hi
  generalize hx : x.branches.take i = q
  cbv; simp only [F]
  split <;> (rename_i h; simp only [h]; cbv; simp only [F])
  · have h' := lt_llen h
    clear h
    obtain ⟨y, hy⟩ := get_lt h'
    have hyb : sizeFs y.fs ≤ 68719476736 := by have := szL_at sizeBranch hy; unfold sizeBranch at *; omega
    refine ⟨inr_rowsN hy, _, at_rowsN hy, ?_⟩
    cbv; simp only [F]
    refine CallK.intro (ret_cloneFs y.fs hyb) ?_
    cbv; simp only [F]
    rw [show [[V.i IntKind.i64 y.mode, V.sl .own 5 (rows nodeR y.fs.nodes), V.sl .own 1 (rows strR y.fs.data)]] = rows branchR [y] from rows_one branchR y, app_rows, ← hx, ← take_snoc hy, add_one h' (by omega)]
    exact ⟨room_app (by simp; omega) (by omega), _, i + 1, ⟨Nat.sub_succ_lt_self _ _ h', rfl, h'⟩, rfl⟩
  · have h' := ge_llen h
    rw [List.take_of_length_le h'] at hx
    subst hx
    exact LeV.to hr (LeF.rfl' _)
theorem ret_l12Copy (x : PoolD) (hb : sizePool x ≤ 68719476736) : Ret pg 37 true [.ag (poolC x)] [] (.ag (poolR x)) := by
  refine ret_eq fun r hr => ?_
  have hn : szL sizeBranch x.branches ≤ 68719476736 := by unfold sizePool at hb; omega
  have hnl := Nat.le_trans (szL_len sizeBranch x.branches) hn
  refine ret0 Try.func37 rfl (by decide +kernel) rfl (hr ▸ own_poolR _) (awF.go 20 [(6, [⟨true, [], [14]⟩, ⟨false, [16, 17, 18, 19, 20, 21, 22, 23, 24, 25, 26, 27, 28, 21, 28, 29, 29, 30], [15]⟩, ⟨false, [15], [16]⟩, ⟨false, [15, 18, 22, 23, 24, 25, 26, 27, 28], [17]⟩, ⟨false, [15, 17], [18]⟩, ⟨false, [15, 22, 23, 24, 25, 26, 27, 28], [19]⟩, ⟨false, [15, 22, 23, 24, 25, 26, 27, 28], [20]⟩, ⟨false, [15, 22, 23, 24, 25, 26, 27, 28], [21]⟩, ⟨false, [15, 17, 19, 20, 21], [22]⟩, ⟨false, [15, 17, 19, 20, 21, 24], [23]⟩, ⟨false, [15, 17, 19, 20, 21, 23], [24]⟩, ⟨false, [15, 17, 19, 20, 21], [25]⟩, ⟨false, [15, 17, 19, 20, 21], [26]⟩, ⟨false, [15, 17, 19, 20, 21], [27]⟩, ⟨false, [15, 17, 19, 20, 21], [28]⟩, ⟨false, [15], [21, 28, 29]⟩, ⟨false, [15], [29, 30]⟩, ⟨true, [], [31]⟩, ⟨true, [], [32]⟩, ⟨true, [], []⟩])] (by decide +kernel) ?_)
  cbv; simp only [F]
  refine LoopK.intro (α := Nat) [1, 2, 3, 4] [1, 2, 3] (fun i => [(4, .i .i64 i)]) (fun i => [(3, poolR { x with branches := x.branches.take i })]) (fun n i => n = x.branches.length - i ∧ i ≤ x.branches.length) ⟨_, 0, ⟨rfl, by omega⟩, by simp only [poolR, List.take_zero, rows_nil]; rfl⟩ fun n i hi => ?_
  obtain ⟨rfl, hi⟩ := hi
  generalize hx : x.branches.take i = q
  cbv; simp only [F]
  split <;> (rename_i h; simp only [h]; cbv; simp only [F])
  · have h' := lt_llen h
    clear h
    obtain ⟨y, hy⟩ := get_lt h'
    have hyb : sizeFs y.fs ≤ 68719476736 := by have := szL_at sizeBranch hy; unfold sizeBranch at *; omega
    refine ⟨inr_rowsN hy, _, at_rowsN hy, ?_⟩
    cbv; simp only [F]
    refine ⟨inr_rowsN hy, _, at_rowsN hy, ?_⟩
    cbv; simp only [F]
    refine CallK.intro (ret_l6Copy y.fs hyb) ?_
    cbv; simp only [F]
    rw [show [[V.i IntKind.i64 y.mode, V.sl .own 5 (rows nodeR y.fs.nodes), V.sl .own 1 (rows strR y.fs.data)]] = rows branchR [y] from rows_one branchR y, app_rows, ← hx, ← take_snoc hy, add_one h' (by omega)]
    exact ⟨room_app (by simp; omega) (by omega), _, i + 1, ⟨Nat.sub_succ_lt_self _ _ h', rfl, h'⟩, rfl⟩
  · have h' := ge_llen h
    rw [List.take_of_length_le h'] at hx
    subst hx
    exact LeV.to hr (LeF.rfl' _)
end Go.Ar
