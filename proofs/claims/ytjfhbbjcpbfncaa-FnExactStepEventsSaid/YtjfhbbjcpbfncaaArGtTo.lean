import Derived.Test.YtjfhbbjcpbfncaaArGt0
namespace Go.Ar
open Go.Proofs
set_option linter.unusedVariables false
set_option linter.unusedSimpArgs false
set_option maxRecDepth 20000

theorem ret_toIntS (l : List (Int)) (hb : szL szInt l ≤ 68719476736) : Ret pg 107 true [.sl .shr 1 (rows intR l)] [] (.sl .own 1 (rows intR l)) := by
  refine ret_eq fun r hr => ?_
  have hl : l.length ≤ 68719476736 := Nat.le_trans (szL_len _ _) hb
  refine ret0 Try.func107 rfl (by decide +kernel) rfl (hr ▸ ⟨rfl, own_intS _⟩) ?_
  cbv; simp only [F]
  refine ⟨ins_rows, room_rows hl (by omega), ?_⟩
  rw [show [V.i IntKind.i64 0] = intR 0 from rfl, rep_rows, ← fillF_zero]
  refine LoopK.intro (α := Nat) [0, 3, 4] [] (fun i => [(3, .sl .own 1 (rows intR (fillF (0 : Int) l i))), (4, .i .i64 i)]) (fun _ => []) (fun n i => n = l.length - i ∧ i ≤ l.length) ⟨_, 0, ⟨rfl, by omega⟩, rfl⟩ fun n i hi => ?_
  obtain ⟨rfl, hi⟩ := hi
  generalize hx : fillF (0 : Int) l i = x
  cbv; simp only [F]
  split <;> (rename_i h; simp only [h]; cbv; simp only [F])
  · have h' := lt_llen h
    clear h
    obtain ⟨y, hy⟩ := get_lt (l := l) (i := i) h'
    refine ⟨inr_rowsN hy, _, at_rowsN hy, ?_⟩
    cbv; simp only [F]
    have hxl : x.length = l.length := by rw [← hx]; exact fillF_len _ l i hi
    obtain ⟨z, hz⟩ := get_lt (l := x) (i := i) (by omega)
    refine ⟨inr_rowsN hz, _, at_rowsN hz, ?_⟩
    cbv; simp only [F]
    rw [show [V.i IntKind.i64 y] = intR y from rfl, set_rowsN, ← hx, fillF_set _ _ _ _ hy, add_one h' (by omega)]
    exact ⟨_, i + 1, ⟨Nat.sub_succ_lt_self _ _ h', rfl, h'⟩, rfl⟩
  · have h' := ge_llen h
    rw [fillF_all _ _ _ h'] at hx
    subst hx
    exact LeV.to hr (LeF.rfl' _)
theorem ret_toStringS (l : List (List UInt8)) (hb : szL List.length l ≤ 68719476736) : Ret pg 45 true [.sl .shr 1 (rows strR l)] [] (.sl .own 1 (rows strR l)) := by
  refine ret_eq fun r hr => ?_
  have hl : l.length ≤ 68719476736 := Nat.le_trans (szL_len _ _) hb
  refine ret0 Try.func45 rfl (by decide +kernel) rfl (hr ▸ ⟨rfl, own_stringS _⟩) ?_
  cbv; simp only [F]
  refine ⟨ins_rows, room_rows hl (by omega), ?_⟩
  rw [show [V.s []] = strR [] from rfl, rep_rows, ← fillF_zero]
  refine LoopK.intro (α := Nat) [0, 3, 4] [] (fun i => [(3, .sl .own 1 (rows strR (fillF ([] : List UInt8) l i))), (4, .i .i64 i)]) (fun _ => []) (fun n i => n = l.length - i ∧ i ≤ l.length) ⟨_, 0, ⟨rfl, by omega⟩, rfl⟩ fun n i hi => ?_
  obtain ⟨rfl, hi⟩ := hi
  generalize hx : fillF ([] : List UInt8) l i = x
  cbv; simp only [F]
  split <;> (rename_i h; simp only [h]; cbv; simp only [F])
  · have h' := lt_llen h
    clear h
    obtain ⟨y, hy⟩ := get_lt (l := l) (i := i) h'
    refine ⟨inr_rowsN hy, _, at_rowsN hy, ?_⟩
    cbv; simp only [F]
    have hxl : x.length = l.length := by rw [← hx]; exact fillF_len _ l i hi
    obtain ⟨z, hz⟩ := get_lt (l := x) (i := i) (by omega)
    refine ⟨inr_rowsN hz, _, at_rowsN hz, ?_⟩
    cbv; simp only [F]
    rw [show [V.s y] = strR y from rfl, set_rowsN, ← hx, fillF_set _ _ _ _ hy, add_one h' (by omega)]
    exact ⟨_, i + 1, ⟨Nat.sub_succ_lt_self _ _ h', rfl, h'⟩, rfl⟩
  · have h' := ge_llen h
    rw [fillF_all _ _ _ h'] at hx
    subst hx
    exact LeV.to hr (LeF.rfl' _)
theorem ret_toNode (x : NodeD) (hb : sizeNode x ≤ 68719476736) : Ret pg 82 true [.ag (nodeC x)] [] (.ag (nodeR x)) := by
  refine ret_eq fun r hr => ?_
  refine ret0 Try.func82 rfl (by decide +kernel) rfl (hr ▸ own_nodeR x) ?_
  cbv; simp only [F]
  refine CallK.intro (ret_toIntS x.blocks (by unfold sizeNode at hb; omega)) ?_
  cbv; simp only [F]
  exact LeV.to hr (LeF.rfl' _)
theorem ret_toNodeS (l : List (NodeD)) (hb : szL sizeNode l ≤ 68719476736) : Ret pg 44 true [.sl .shr 5 (rows nodeR l)] [] (.sl .own 5 (rows nodeR l)) := by
  refine ret_eq fun r hr => ?_
  have hl : l.length ≤ 68719476736 := Nat.le_trans (szL_len _ _) hb
  refine ret0 Try.func44 rfl (by decide +kernel) rfl (hr ▸ ⟨rfl, own_nodeS _⟩) ?_
  cbv; simp only [F]
  refine ⟨ins_rows, room_rows hl (by omega), ?_⟩
  rw [← nodeR_0, rep_rows, ← fillF_zero]
  refine LoopK.intro (α := Nat) [0, 3, 4] [] (fun i => [(3, .sl .own 5 (rows nodeR (fillF node0 l i))), (4, .i .i64 i)]) (fun _ => []) (fun n i => n = l.length - i ∧ i ≤ l.length) ⟨_, 0, ⟨rfl, by omega⟩, rfl⟩ fun n i hi => ?_
  obtain ⟨rfl, hi⟩ := hi
  generalize hx : fillF node0 l i = x
  cbv; simp only [F]
  split <;> (rename_i h; simp only [h]; cbv; simp only [F])
  · have h' := lt_llen h
    clear h
    obtain ⟨y, hy⟩ := get_lt (l := l) (i := i) h'
    refine ⟨inr_rowsN hy, _, at_rowsN hy, ?_⟩
    cbv; simp only [F]
    refine CallK.intro (ret_toNode y (Nat.le_trans (szL_at sizeNode hy) hb)) ?_
    cbv; simp only [F]
    have hxl : x.length = l.length := by rw [← hx]; exact fillF_len _ l i hi
    obtain ⟨z, hz⟩ := get_lt (l := x) (i := i) (by omega)
    refine ⟨inr_rowsN hz, _, at_rowsN hz, ?_⟩
    cbv; simp only [F]
    rw [show [.i .i64 y.kind, .i .i64 y.gen, .i .i64 y.time, .i .i64 y.size, .sl .own 1 (rows intR y.blocks)] = nodeR y from rfl, set_rowsN, ← hx, fillF_set _ _ _ _ hy, add_one h' (by omega)]
    exact ⟨_, i + 1, ⟨Nat.sub_succ_lt_self _ _ h', rfl, h'⟩, rfl⟩
  · have h' := ge_llen h
    rw [fillF_all _ _ _ h'] at hx
    subst hx
    exact LeV.to hr (LeF.rfl' _)
theorem ret_toFs (x : FsD) (hb : sizeFs x ≤ 68719476736) : Ret pg 13 true [.ag (fsC x)] [] (.ag (fsR x)) := by
  refine ret_eq fun r hr => ?_
  refine ret0 Try.func13 rfl (by decide +kernel) rfl (hr ▸ own_fsR x) ?_
  cbv; simp only [F]
  refine CallK.intro (ret_toNodeS x.nodes (by unfold sizeFs at hb; omega)) ?_
  cbv; simp only [F]
  refine CallK.intro (ret_toStringS x.data (by unfold sizeFs at hb; omega)) ?_
  cbv; simp only [F]
  exact LeV.to hr (LeF.rfl' _)
theorem ret_toBranch (x : BranchD) (hb : sizeBranch x ≤ 68719476736) : Ret pg 94 true [.ag (branchC x)] [] (.ag (branchR x)) := by
  refine ret_eq fun r hr => ?_
  refine ret0 Try.func94 rfl (by decide +kernel) rfl (hr ▸ own_branchR x) ?_
  cbv; simp only [F]
  refine CallK.intro (ret_toFs x.fs (by unfold sizeBranch at hb; omega)) ?_
  cbv; simp only [F]
  exact LeV.to hr (LeF.rfl' _)
theorem ret_toBranchS (l : List (BranchD)) (hb : szL sizeBranch l ≤ 68719476736) : Ret pg 59 true [.sl .shr 3 (rows branchR l)] [] (.sl .own 3 (rows branchR l)) := by
  refine ret_eq fun r hr => ?_
  have hl : l.length ≤ 68719476736 := Nat.le_trans (szL_len _ _) hb
  refine ret0 Try.func59 rfl (by decide +kernel) rfl (hr ▸ ⟨rfl, own_branchS _⟩) ?_
  cbv; simp only [F]
  refine ⟨ins_rows, room_rows hl (by omega), ?_⟩
  rw [← branchR_0, rep_rows, ← fillF_zero]
  refine LoopK.intro (α := Nat) [0, 3, 4] [] (fun i => [(3, .sl .own 3 (rows branchR (fillF branch0 l i))), (4, .i .i64 i)]) (fun _ => []) (fun n i => n = l.length - i ∧ i ≤ l.length) ⟨_, 0, ⟨rfl, by omega⟩, rfl⟩ fun n i hi => ?_
  obtain ⟨rfl, hi⟩ := hi
  generalize hx : fillF branch0 l i = x
  cbv; simp only [F]
  split <;> (rename_i h; simp only [h]; cbv; simp only [F])
  · have h' := lt_llen h
    clear h
    obtain ⟨y, hy⟩ := get_lt (l := l) (i := i) h'
    refine ⟨inr_rowsN hy, _, at_rowsN hy, ?_⟩
    cbv; simp only [F]
    refine CallK.intro (ret_toBranch y (Nat.le_trans (szL_at sizeBranch hy) hb)) ?_
    cbv; simp only [F]
    have hxl : x.length = l.length := by rw [← hx]; exact fillF_len _ l i hi
    obtain ⟨z, hz⟩ := get_lt (l := x) (i := i) (by omega)
    refine ⟨inr_rowsN hz, _, at_rowsN hz, ?_⟩
    cbv; simp only [F]
    rw [show [.i .i64 y.mode, .sl .own 5 (rows nodeR y.fs.nodes), .sl .own 1 (rows strR y.fs.data)] = branchR y from rfl, set_rowsN, ← hx, fillF_set _ _ _ _ hy, add_one h' (by omega)]
    exact ⟨_, i + 1, ⟨Nat.sub_succ_lt_self _ _ h', rfl, h'⟩, rfl⟩
  · have h' := ge_llen h
    rw [fillF_all _ _ _ h'] at hx
    subst hx
    exact LeV.to hr (LeF.rfl' _)
theorem ret_toMove (x : MoveD) (hb : sizeMove x ≤ 68719476736) : Ret pg 60 true [.ag (moveC x)] [] (.ag (moveR x)) := by
  refine ret_eq fun r hr => ?_
  refine ret0 Try.func60 rfl (by decide +kernel) rfl (hr ▸ own_moveR x) ?_
  refine awN.go 5 ?_
  cbv; simp only [F]
  refine awN.rest ?_
  cbv; simp only [F]
  exact LeV.to hr (LeF.rfl' _)
theorem ret_toPool (x : PoolD) (hb : sizePool x ≤ 68719476736) : Ret pg 23 true [.ag (poolC x)] [] (.ag (poolR x)) := by
  refine ret_eq fun r hr => ?_
  refine ret0 Try.func23 rfl (by decide +kernel) rfl (hr ▸ own_poolR x) ?_
  cbv; simp only [F]
  refine CallK.intro (ret_toBranchS x.branches (by unfold sizePool at hb; omega)) ?_
  cbv; simp only [F]
  refine CallK.intro (ret_toMove x.move (by unfold sizePool at hb; omega)) ?_
  cbv; simp only [F]
  exact LeV.to hr (LeF.rfl' _)
theorem ret_toStep (x : StepD) (hb : sizeStep x ≤ 68719476736) : Ret pg 24 true [.ag (stepC x)] [] (.ag (stepR x)) := by
  refine ret_eq fun r hr => ?_
  refine ret0 Try.func24 rfl (by decide +kernel) rfl (hr ▸ own_stepR x) ?_
  cbv; simp only [F]
  refine CallK.intro (ret_toFs x.fs (by unfold sizeStep at hb; omega)) ?_
  cbv; simp only [F]
  exact LeV.to hr (LeF.rfl' _)
end Go.Ar
