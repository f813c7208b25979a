import Derived.Test.YtjfhbbjcpbfncaaArGt0
namespace Go.Ar
open Go.Proofs
set_option linter.unusedVariables false
set_option linter.unusedSimpArgs false
set_option maxRecDepth 20000

theorem ret_szIntS (l : List Int) (left : Int) (hl : l.length ≤ maxLen) (h0 : 0 ≤ left) (h1 : left ≤ 1048576) : Ret pg 104 true [.sl .shr 1 (rows intR l), .i .i64 left] [] (.i .i64 (lessS left (szL szInt l))) := by
  generalize hr : V.i .i64 (lessS left (szL szInt l)) = r
  refine ret0 Try.func104 rfl (by decide +kernel) rfl (hr ▸ trivial) ?_
  cbv; simp only [F]
  generalize e1 : iop .sub .i64 left (llen (rows intR l)) = l1
  have q1 := sub_llen e1 h0 h1 hl
  clear e1
  have m1 : IsSub left l.length l1 := q1
  clear q1
  split <;> (rename_i h; simp only [h]; cbv; simp only [F])
  · have hn := m1.neg (lt_zero h) h0
    exact LeV.ti hr (by rw [lessS_lt]; unfold szL; omega)
  · have m2 := (m1.pos (ge_zero h)).eq
    have g := ge_zero h
    exact LeV.ti hr (by rw [lessS_eq] <;> unfold szL <;> rw [szInt_sum] <;> omega)
theorem ret_szStringS (l : List (List UInt8)) (left : Int) (hl : l.length ≤ maxLen) (hw : ∀ y ∈ l, y.length ≤ maxLen) (h0 : 0 ≤ left) (h1 : left ≤ 1048576) : Ret pg 41 true [.sl .shr 1 (rows strR l), .i .i64 left] [] (.i .i64 (lessS left (szL List.length l))) := by
  generalize hr : V.i .i64 (lessS left (szL List.length l)) = r
  refine ret0 Try.func41 rfl (by decide +kernel) rfl (hr ▸ trivial) ?_
  cbv; simp only [F]
  generalize e1 : iop .sub .i64 left (llen (rows strR l)) = l1
  have q1 : IsSub left l.length l1 := sub_llen e1 h0 h1 hl
  clear e1
  split <;> (rename_i h; simp only [h]; cbv; simp only [F])
  · exact LeV.ti hr (szL_neg (q1.eqn) (lt_zero h))
  have g0 := ge_zero h
  clear h
  refine LoopK.intro (α := Nat × Int) [0, 1, 5] [] (fun a => [(1, .i .i64 a.2), (5, .i .i64 a.1)]) (fun _ => []) (fun n a => n = l.length - a.1 ∧ SzI List.length l left a.1 a.2) ⟨_, (0, l1), ⟨rfl, SzI.zero q1.eqn g0 h1⟩, rfl⟩ fun n a ha => ?_
  obtain ⟨i, lf⟩ := a
  obtain ⟨rfl, ha⟩ := ha
  dsimp only at ha ⊢
  cbv; simp only [F]
  split <;> (rename_i h; simp only [h]; cbv; simp only [F])
  · obtain ⟨y, hy⟩ := get_lt (lt_llen h)
    clear h
    refine ⟨inr_rowsN hy, _, at_rowsN hy, ?_⟩
    cbv; simp only [F]
    generalize e2 : iop .sub .i64 lf (slen y) = l2
    have q2 : IsSub lf y.length l2 := sub_slen e2 ha.2.1 ha.le (hw y (List.mem_of_getElem? hy))
    clear e2
    split <;> (rename_i h; simp only [h]; cbv; simp only [F])
    · exact LeV.ti hr (ha.neg hy (q2.less ha.2.1 (lt_zero h)) lessS_neg1)
    · have g := ge_zero h
      rw [add_one (get_lt_len hy) (by have := ha.len; omega)]
      exact ⟨_, (i + 1, l2), ⟨Nat.sub_succ_lt_self _ _ (get_lt_len hy), rfl, ha.step hy (q2.pos g).lessE g⟩, rfl⟩
  · exact LeV.ti hr (ha.done (ge_llen h))
theorem ret_szNode (x : NodeD) (left : Int) (hw : wfNode x) (h0 : 0 ≤ left) (h1 : left ≤ 1048576) : Ret pg 76 true [.ag (nodeC x), .i .i64 left] [] (.i .i64 (lessS left (sizeNode x))) := by
  generalize hr : V.i .i64 (lessS left (sizeNode x)) = r
  refine ret0 Try.func76 rfl (by decide +kernel) rfl (hr ▸ trivial) ?_
  cbv; simp only [F]
  refine CallK.intro (ret_szIntS x.blocks left hw h0 h1) ?_
  generalize e0 : lessS left (szL szInt x.blocks) = l0
  have u0 : IsLess left (szL szInt x.blocks) l0 := e0
  clear e0
  cbv; simp only [F]
  split <;> (rename_i h; simp only [h]; cbv; simp only [F])
  · have hn := u0.neg (lt_zero h) h0
    exact LeV.ti hr (by rw [lessS_lt]; unfold sizeNode; omega)
  have g0 := ge_zero h
  clear h
  have m0 := u0.pos g0
  have k0 : l0 ≤ 1048576 := m0.le h1
  clear u0
  exact LeV.ti hr (by rw [lessS_eq] <;> unfold sizeNode <;> (have := m0.eq; omega))
theorem ret_szNodeS (l : List (NodeD)) (left : Int) (hl : l.length ≤ maxLen) (hw : ∀ y ∈ l, wfNode y) (h0 : 0 ≤ left) (h1 : left ≤ 1048576) : Ret pg 40 true [.sl .shr 5 (rows nodeR l), .i .i64 left] [] (.i .i64 (lessS left (szL sizeNode l))) := by
  generalize hr : V.i .i64 (lessS left (szL sizeNode l)) = r
  refine ret0 Try.func40 rfl (by decide +kernel) rfl (hr ▸ trivial) ?_
  cbv; simp only [F]
  generalize e1 : iop .sub .i64 left (llen (rows nodeR l)) = l1
  have q1 : IsSub left l.length l1 := sub_llen e1 h0 h1 hl
  clear e1
  split <;> (rename_i h; simp only [h]; cbv; simp only [F])
  · exact LeV.ti hr (szL_neg (q1.eqn) (lt_zero h))
  have g0 := ge_zero h
  clear h
  refine LoopK.intro (α := Nat × Int) [0, 1, 5] [] (fun a => [(1, .i .i64 a.2), (5, .i .i64 a.1)]) (fun _ => []) (fun n a => n = l.length - a.1 ∧ SzI sizeNode l left a.1 a.2) ⟨_, (0, l1), ⟨rfl, SzI.zero q1.eqn g0 h1⟩, rfl⟩ fun n a ha => ?_
  obtain ⟨i, lf⟩ := a
  obtain ⟨rfl, ha⟩ := ha
  dsimp only at ha ⊢
  cbv; simp only [F]
  split <;> (rename_i h; simp only [h]; cbv; simp only [F])
  · obtain ⟨y, hy⟩ := get_lt (lt_llen h)
    clear h
    refine ⟨inr_rowsN hy, _, at_rowsN hy, ?_⟩
    cbv; simp only [F]
    refine CallK.intro (ret_szNode y lf (hw y (List.mem_of_getElem? hy)) ha.2.1 ha.le) ?_
    generalize e2 : lessS lf (sizeNode y) = l2
    have q2 : IsLess lf (sizeNode y) l2 := e2
    clear e2
    cbv; simp only [F]
    split <;> (rename_i h; simp only [h]; cbv; simp only [F])
    · exact LeV.ti hr (ha.neg hy q2 (lt_zero h))
    · have g := ge_zero h
      rw [add_one (get_lt_len hy) (by have := ha.len; omega)]
      exact ⟨_, (i + 1, l2), ⟨Nat.sub_succ_lt_self _ _ (get_lt_len hy), rfl, ha.step hy q2 g⟩, rfl⟩
  · exact LeV.ti hr (ha.done (ge_llen h))
theorem ret_szFs (x : FsD) (left : Int) (hw : wfFs x) (h0 : 0 ≤ left) (h1 : left ≤ 1048576) : Ret pg 11 true [.ag (fsC x), .i .i64 left] [] (.i .i64 (lessS left (sizeFs x))) := by
  generalize hr : V.i .i64 (lessS left (sizeFs x)) = r
  refine ret0 Try.func11 rfl (by decide +kernel) rfl (hr ▸ trivial) ?_
  cbv; simp only [F]
  refine CallK.intro (ret_szNodeS x.nodes left hw.1.1 hw.1.2 h0 h1) ?_
  generalize e0 : lessS left (szL sizeNode x.nodes) = l0
  have u0 : IsLess left (szL sizeNode x.nodes) l0 := e0
  clear e0
  cbv; simp only [F]
  split <;> (rename_i h; simp only [h]; cbv; simp only [F])
  · have hn := u0.neg (lt_zero h) h0
    exact LeV.ti hr (by rw [lessS_lt]; unfold sizeFs; omega)
  have g0 := ge_zero h
  clear h
  have m0 := u0.pos g0
  have k0 : l0 ≤ 1048576 := m0.le h1
  clear u0
  refine CallK.intro (ret_szStringS x.data l0 hw.2.1 hw.2.2 g0 k0) ?_
  generalize e1 : lessS l0 (szL List.length x.data) = l1
  have u1 : IsLess l0 (szL List.length x.data) l1 := e1
  clear e1
  cbv; simp only [F]
  split <;> (rename_i h; simp only [h]; cbv; simp only [F])
  · have hn := u1.neg (lt_zero h) g0
    exact LeV.ti hr (by rw [lessS_lt]; unfold sizeFs; have := m0.eq; omega)
  have g1 := ge_zero h
  clear h
  have m1 := u1.pos g1
  have k1 : l1 ≤ 1048576 := m1.le k0
  clear u1
  exact LeV.ti hr (by rw [lessS_eq] <;> unfold sizeFs <;> (have := m0.eq; have := m1.eq; omega))
theorem ret_szBranch (x : BranchD) (left : Int) (hw : wfBranch x) (h0 : 0 ≤ left) (h1 : left ≤ 1048576) : Ret pg 90 true [.ag (branchC x), .i .i64 left] [] (.i .i64 (lessS left (sizeBranch x))) := by
  generalize hr : V.i .i64 (lessS left (sizeBranch x)) = r
  refine ret0 Try.func90 rfl (by decide +kernel) rfl (hr ▸ trivial) ?_
  cbv; simp only [F]
  refine CallK.intro (ret_szFs x.fs left hw h0 h1) ?_
  generalize e0 : lessS left (sizeFs x.fs) = l0
  have u0 : IsLess left (sizeFs x.fs) l0 := e0
  clear e0
  cbv; simp only [F]
  split <;> (rename_i h; simp only [h]; cbv; simp only [F])
  · have hn := u0.neg (lt_zero h) h0
    exact LeV.ti hr (by rw [lessS_lt]; unfold sizeBranch; omega)
  have g0 := ge_zero h
  clear h
  have m0 := u0.pos g0
  have k0 : l0 ≤ 1048576 := m0.le h1
  clear u0
  exact LeV.ti hr (by rw [lessS_eq] <;> unfold sizeBranch <;> (have := m0.eq; omega))
theorem ret_szBranchS (l : List (BranchD)) (left : Int) (hl : l.length ≤ maxLen) (hw : ∀ y ∈ l, wfBranch y) (h0 : 0 ≤ left) (h1 : left ≤ 1048576) : Ret pg 55 true [.sl .shr 3 (rows branchR l), .i .i64 left] [] (.i .i64 (lessS left (szL sizeBranch l))) := by
  generalize hr : V.i .i64 (lessS left (szL sizeBranch l)) = r
  refine ret0 Try.func55 rfl (by decide +kernel) rfl (hr ▸ trivial) ?_
  cbv; simp only [F]
  generalize e1 : iop .sub .i64 left (llen (rows branchR l)) = l1
  have q1 : IsSub left l.length l1 := sub_llen e1 h0 h1 hl
  clear e1
  split <;> (rename_i h; simp only [h]; cbv; simp only [F])
  · exact LeV.ti hr (szL_neg (q1.eqn) (lt_zero h))
  have g0 := ge_zero h
  clear h
  refine LoopK.intro (α := Nat × Int) [0, 1, 5] [] (fun a => [(1, .i .i64 a.2), (5, .i .i64 a.1)]) (fun _ => []) (fun n a => n = l.length - a.1 ∧ SzI sizeBranch l left a.1 a.2) ⟨_, (0, l1), ⟨rfl, SzI.zero q1.eqn g0 h1⟩, rfl⟩ fun n a ha => ?_
  obtain ⟨i, lf⟩ := a
  obtain ⟨rfl, ha⟩ := ha
  dsimp only at ha ⊢
  cbv; simp only [F]
  split <;> (rename_i h; simp only [h]; cbv; simp only [F])
  · obtain ⟨y, hy⟩ := get_lt (lt_llen h)
    clear h
    refine ⟨inr_rowsN hy, _, at_rowsN hy, ?_⟩
    cbv; simp only [F]
    refine CallK.intro (ret_szBranch y lf (hw y (List.mem_of_getElem? hy)) ha.2.1 ha.le) ?_
    generalize e2 : lessS lf (sizeBranch y) = l2
    have q2 : IsLess lf (sizeBranch y) l2 := e2
    clear e2
    cbv; simp only [F]
    split <;> (rename_i h; simp only [h]; cbv; simp only [F])
    · exact LeV.ti hr (ha.neg hy q2 (lt_zero h))
    · have g := ge_zero h
      rw [add_one (get_lt_len hy) (by have := ha.len; omega)]
      exact ⟨_, (i + 1, l2), ⟨Nat.sub_succ_lt_self _ _ (get_lt_len hy), rfl, ha.step hy q2 g⟩, rfl⟩
  · exact LeV.ti hr (ha.done (ge_llen h))
theorem ret_szMove (x : MoveD) (left : Int) (hw : wfMove x) (h0 : 0 ≤ left) (h1 : left ≤ 1048576) : Ret pg 56 true [.ag (moveC x), .i .i64 left] [] (.i .i64 (lessS left (sizeMove x))) := by
  generalize hr : V.i .i64 (lessS left (sizeMove x)) = r
  refine ret0 Try.func56 rfl (by decide +kernel) rfl (hr ▸ trivial) ?_
  cbv; simp only [F]
  generalize e0 : iop .sub .i64 left (slen x.path) = l0
  have u0 : IsSub left (x.path.length) l0 := sub_slen e0 h0 h1 hw
  clear e0
  split <;> (rename_i h; simp only [h]; cbv; simp only [F])
  · have hn := u0.neg (lt_zero h) h0
    exact LeV.ti hr (by rw [lessS_lt]; unfold sizeMove; omega)
  have g0 := ge_zero h
  clear h
  have m0 := u0.pos g0
  have k0 : l0 ≤ 1048576 := m0.le h1
  clear u0
  exact LeV.ti hr (by rw [lessS_eq] <;> unfold sizeMove <;> (have := m0.eq; omega))
theorem ret_szPool (x : PoolD) (left : Int) (hw : wfPool x) (h0 : 0 ≤ left) (h1 : left ≤ 1048576) : Ret pg 20 true [.ag (poolC x), .i .i64 left] [] (.i .i64 (lessS left (sizePool x))) := by
  generalize hr : V.i .i64 (lessS left (sizePool x)) = r
  refine ret0 Try.func20 rfl (by decide +kernel) rfl (hr ▸ trivial) ?_
  cbv; simp only [F]
  refine CallK.intro (ret_szBranchS x.branches left hw.1.1 hw.1.2 h0 h1) ?_
  generalize e0 : lessS left (szL sizeBranch x.branches) = l0
  have u0 : IsLess left (szL sizeBranch x.branches) l0 := e0
  clear e0
  cbv; simp only [F]
  split <;> (rename_i h; simp only [h]; cbv; simp only [F])
  · have hn := u0.neg (lt_zero h) h0
    exact LeV.ti hr (by rw [lessS_lt]; unfold sizePool; omega)
  have g0 := ge_zero h
  clear h
  have m0 := u0.pos g0
  have k0 : l0 ≤ 1048576 := m0.le h1
  clear u0
  refine CallK.intro (ret_szMove x.move l0 hw.2 g0 k0) ?_
  generalize e1 : lessS l0 (sizeMove x.move) = l1
  have u1 : IsLess l0 (sizeMove x.move) l1 := e1
  clear e1
  cbv; simp only [F]
  split <;> (rename_i h; simp only [h]; cbv; simp only [F])
  · have hn := u1.neg (lt_zero h) g0
    exact LeV.ti hr (by rw [lessS_lt]; unfold sizePool; have := m0.eq; omega)
  have g1 := ge_zero h
  clear h
  have m1 := u1.pos g1
  have k1 : l1 ≤ 1048576 := m1.le k0
  clear u1
  exact LeV.ti hr (by rw [lessS_eq] <;> unfold sizePool <;> (have := m0.eq; have := m1.eq; omega))
theorem ret_szStep (x : StepD) (left : Int) (hw : wfStep x) (h0 : 0 ≤ left) (h1 : left ≤ 1048576) : Ret pg 21 true [.ag (stepC x), .i .i64 left] [] (.i .i64 (lessS left (sizeStep x))) := by
  generalize hr : V.i .i64 (lessS left (sizeStep x)) = r
  refine ret0 Try.func21 rfl (by decide +kernel) rfl (hr ▸ trivial) ?_
  cbv; simp only [F]
  refine CallK.intro (ret_szFs x.fs left hw h0 h1) ?_
  generalize e0 : lessS left (sizeFs x.fs) = l0
  have u0 : IsLess left (sizeFs x.fs) l0 := e0
  clear e0
  cbv; simp only [F]
  split <;> (rename_i h; simp only [h]; cbv; simp only [F])
  · have hn := u0.neg (lt_zero h) h0
    exact LeV.ti hr (by rw [lessS_lt]; unfold sizeStep; omega)
  have g0 := ge_zero h
  clear h
  have m0 := u0.pos g0
  have k0 : l0 ≤ 1048576 := m0.le h1
  clear u0
  exact LeV.ti hr (by rw [lessS_eq] <;> unfold sizeStep <;> (have := m0.eq; omega))
end Go.Ar
