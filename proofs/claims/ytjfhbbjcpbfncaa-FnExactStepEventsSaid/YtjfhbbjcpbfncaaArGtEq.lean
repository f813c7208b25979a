import Derived.Test.YtjfhbbjcpbfncaaArGt0
namespace Go.Ar
open Go.Proofs
set_option linter.unusedVariables false
set_option linter.unusedSimpArgs false
set_option maxRecDepth 20000

theorem ret_eqIntS (a b : List (Int)) (hb : szL szInt a ≤ 68719476736) : Ret pg 112 true [.sl .shr 1 (rows intR a), .sl .shr 1 (rows intR b)] [] (.b (decide (a = b))) := by
  have hl : a.length ≤ 68719476736 := Nat.le_trans (szL_len _ _) hb
  generalize hr : V.b (decide (a = b)) = r
  refine ret0 Try.func112 rfl (by decide +kernel) rfl (hr ▸ trivial) ?_
  cbv; simp only [F]
  split <;> (rename_i h; simp only [h]; cbv; simp only [F])
  · exact LeV.tb hr (decide_eq_false (ne_llenB h)).symm
  have hlen := lt_llenB h
  clear h
  refine LoopK.intro (α := Nat) [0, 1, 5] [] (fun i => [(5, .i .i64 i)]) (fun _ => []) (fun n i => n = a.length - i ∧ i ≤ a.length ∧ a.take i = b.take i) ⟨_, 0, ⟨rfl, by omega, by simp⟩, rfl⟩ fun n i hi => ?_
  obtain ⟨rfl, hi, hx⟩ := hi
  cbv; simp only [F]
  split <;> (rename_i h; simp only [h]; cbv; simp only [F])
  · have h' := lt_llen h
    clear h
    obtain ⟨y, hy⟩ := get_lt (l := a) (i := i) h'
    obtain ⟨z, hz⟩ := get_lt (l := b) (i := i) (by omega)
    refine ⟨inr_rowsN hy, _, at_rowsN hy, ?_⟩
    cbv; simp only [F]
    refine ⟨inr_rowsN hz, _, at_rowsN hz, ?_⟩
    cbv; simp only [F]
    split <;> (rename_i h; simp only [h]; cbv; simp only [F])
    · exact LeV.tb hr (decide_eq_false (ne_at hy hz (not_true_neq h))).symm
    · rw [add_one h' (by omega)]
      exact ⟨_, i + 1, ⟨Nat.sub_succ_lt_self _ _ h', rfl, h', take_eq_snoc hx hy hz (not_false_neq h)⟩, rfl⟩
  · exact LeV.tb hr (decide_eq_true (eq_of_take hx (ge_llen h) hlen)).symm
theorem ret_eqStringS (a b : List (List UInt8)) (hb : szL List.length a ≤ 68719476736) : Ret pg 47 true [.sl .shr 1 (rows strR a), .sl .shr 1 (rows strR b)] [] (.b (decide (a = b))) := by
  have hl : a.length ≤ 68719476736 := Nat.le_trans (szL_len _ _) hb
  generalize hr : V.b (decide (a = b)) = r
  refine ret0 Try.func47 rfl (by decide +kernel) rfl (hr ▸ trivial) ?_
  cbv; simp only [F]
  split <;> (rename_i h; simp only [h]; cbv; simp only [F])
  · exact LeV.tb hr (decide_eq_false (ne_llenB h)).symm
  have hlen := lt_llenB h
  clear h
  refine LoopK.intro (α := Nat) [0, 1, 5] [] (fun i => [(5, .i .i64 i)]) (fun _ => []) (fun n i => n = a.length - i ∧ i ≤ a.length ∧ a.take i = b.take i) ⟨_, 0, ⟨rfl, by omega, by simp⟩, rfl⟩ fun n i hi => ?_
  obtain ⟨rfl, hi, hx⟩ := hi
  cbv; simp only [F]
  split <;> (rename_i h; simp only [h]; cbv; simp only [F])
  · have h' := lt_llen h
    clear h
    obtain ⟨y, hy⟩ := get_lt (l := a) (i := i) h'
    obtain ⟨z, hz⟩ := get_lt (l := b) (i := i) (by omega)
    refine ⟨inr_rowsN hy, _, at_rowsN hy, ?_⟩
    cbv; simp only [F]
    refine ⟨inr_rowsN hz, _, at_rowsN hz, ?_⟩
    cbv; simp only [F]
    split <;> (rename_i h; simp only [h]; cbv; simp only [F])
    · exact LeV.tb hr (decide_eq_false (ne_at hy hz (not_true_neqs h))).symm
    · rw [add_one h' (by omega)]
      exact ⟨_, i + 1, ⟨Nat.sub_succ_lt_self _ _ h', rfl, h', take_eq_snoc hx hy hz (not_false_neqs h)⟩, rfl⟩
  · exact LeV.tb hr (decide_eq_true (eq_of_take hx (ge_llen h) hlen)).symm
theorem ret_eqNode (x y : NodeD) (hb : sizeNode x ≤ 68719476736) : Ret pg 88 true [.ag (nodeC x), .ag (nodeC y)] [] (.b (decide (x = y))) := by
  have hd : decide (x = y) = decide (x.kind = y.kind ∧ x.gen = y.gen ∧ x.time = y.time ∧ x.size = y.size ∧ x.blocks = y.blocks) := by
    obtain ⟨a0, a1, a2, a3, a4⟩ := x; obtain ⟨b0, b1, b2, b3, b4⟩ := y; simp only [NodeD.mk.injEq]
  rw [hd]
  generalize hr : V.b (decide (x.kind = y.kind ∧ x.gen = y.gen ∧ x.time = y.time ∧ x.size = y.size ∧ x.blocks = y.blocks)) = r
  clear hd
  refine ret0 Try.func88 rfl (by decide +kernel) rfl (hr ▸ trivial) ?_
  cbv; simp only [F]
  split <;> (rename_i h; simp only [h]; cbv; simp only [F])
  · have hn := not_true_neq h
    exact LeV.tb hr (by simp [hn])
  have h0 := not_false_neq h
  clear h
  split <;> (rename_i h; simp only [h]; cbv; simp only [F])
  · have hn := not_true_neq h
    exact LeV.tb hr (by simp [hn])
  have h1 := not_false_neq h
  clear h
  split <;> (rename_i h; simp only [h]; cbv; simp only [F])
  · have hn := not_true_neq h
    exact LeV.tb hr (by simp [hn])
  have h2 := not_false_neq h
  clear h
  split <;> (rename_i h; simp only [h]; cbv; simp only [F])
  · have hn := not_true_neq h
    exact LeV.tb hr (by simp [hn])
  have h3 := not_false_neq h
  clear h
  refine CallK.intro (ret_eqIntS x.blocks y.blocks (by unfold sizeNode at hb; omega)) ?_
  generalize hc : decide (x.blocks = y.blocks) = c
  cases c <;> cbv <;> simp only [F]
  · have hn := of_decide_eq_false hc
    exact LeV.tb hr (by simp [hn])
  have h4 := of_decide_eq_true hc
  clear hc
  exact LeV.tb hr (by simp [h0, h1, h2, h3, h4])
theorem ret_eqNodeS (a b : List (NodeD)) (hb : szL sizeNode a ≤ 68719476736) : Ret pg 49 true [.sl .shr 5 (rows nodeR a), .sl .shr 5 (rows nodeR b)] [] (.b (decide (a = b))) := by
  have hl : a.length ≤ 68719476736 := Nat.le_trans (szL_len _ _) hb
  generalize hr : V.b (decide (a = b)) = r
  refine ret0 Try.func49 rfl (by decide +kernel) rfl (hr ▸ trivial) ?_
  cbv; simp only [F]
  split <;> (rename_i h; simp only [h]; cbv; simp only [F])
  · exact LeV.tb hr (decide_eq_false (ne_llenB h)).symm
  have hlen := lt_llenB h
  clear h
  refine LoopK.intro (α := Nat) [0, 1, 5] [] (fun i => [(5, .i .i64 i)]) (fun _ => []) (fun n i => n = a.length - i ∧ i ≤ a.length ∧ a.take i = b.take i) ⟨_, 0, ⟨rfl, by omega, by simp⟩, rfl⟩ fun n i hi => ?_
  obtain ⟨rfl, hi, hx⟩ := hi
  cbv; simp only [F]
  split <;> (rename_i h; simp only [h]; cbv; simp only [F])
  · have h' := lt_llen h
    clear h
    obtain ⟨y, hy⟩ := get_lt (l := a) (i := i) h'
    obtain ⟨z, hz⟩ := get_lt (l := b) (i := i) (by omega)
    refine ⟨inr_rowsN hy, _, at_rowsN hy, ?_⟩
    cbv; simp only [F]
    refine ⟨inr_rowsN hz, _, at_rowsN hz, ?_⟩
    cbv; simp only [F]
    refine CallK.intro (ret_eqNode y z (Nat.le_trans (szL_at sizeNode hy) hb)) ?_
    generalize hc : decide (y = z) = c
    cases c <;> cbv <;> simp only [F]
    · exact LeV.tb hr (decide_eq_false (ne_at hy hz (of_decide_eq_false hc))).symm
    · rw [add_one h' (by omega)]
      exact ⟨_, i + 1, ⟨Nat.sub_succ_lt_self _ _ h', rfl, h', take_eq_snoc hx hy hz (of_decide_eq_true hc)⟩, rfl⟩
  · exact LeV.tb hr (decide_eq_true (eq_of_take hx (ge_llen h) hlen)).symm
theorem ret_eqFs (x y : FsD) (hb : sizeFs x ≤ 68719476736) : Ret pg 16 true [.ag (fsC x), .ag (fsC y)] [] (.b (decide (x = y))) := by
  have hd : decide (x = y) = decide (x.nodes = y.nodes ∧ x.data = y.data) := by
    obtain ⟨a0, a1⟩ := x; obtain ⟨b0, b1⟩ := y; simp only [FsD.mk.injEq]
  rw [hd]
  generalize hr : V.b (decide (x.nodes = y.nodes ∧ x.data = y.data)) = r
  clear hd
  refine ret0 Try.func16 rfl (by decide +kernel) rfl (hr ▸ trivial) ?_
  cbv; simp only [F]
  refine CallK.intro (ret_eqNodeS x.nodes y.nodes (by unfold sizeFs at hb; omega)) ?_
  generalize hc : decide (x.nodes = y.nodes) = c
  cases c <;> cbv <;> simp only [F]
  · have hn := of_decide_eq_false hc
    exact LeV.tb hr (by simp [hn])
  have h0 := of_decide_eq_true hc
  clear hc
  refine CallK.intro (ret_eqStringS x.data y.data (by unfold sizeFs at hb; omega)) ?_
  generalize hc : decide (x.data = y.data) = c
  cases c <;> cbv <;> simp only [F]
  · have hn := of_decide_eq_false hc
    exact LeV.tb hr (by simp [hn])
  have h1 := of_decide_eq_true hc
  clear hc
  exact LeV.tb hr (by simp [h0, h1])
theorem ret_eqBranch (x y : BranchD) (hb : sizeBranch x ≤ 68719476736) : Ret pg 97 true [.ag (branchC x), .ag (branchC y)] [] (.b (decide (x = y))) := by
  have hd : decide (x = y) = decide (x.mode = y.mode ∧ x.fs = y.fs) := by
    obtain ⟨a0, a1⟩ := x; obtain ⟨b0, b1⟩ := y; simp only [BranchD.mk.injEq]
  rw [hd]
  generalize hr : V.b (decide (x.mode = y.mode ∧ x.fs = y.fs)) = r
  clear hd
  refine ret0 Try.func97 rfl (by decide +kernel) rfl (hr ▸ trivial) ?_
  cbv; simp only [F]
  split <;> (rename_i h; simp only [h]; cbv; simp only [F])
  · have hn := not_true_neq h
    exact LeV.tb hr (by simp [hn])
  have h0 := not_false_neq h
  clear h
  refine CallK.intro (ret_eqFs x.fs y.fs (by unfold sizeBranch at hb; omega)) ?_
  generalize hc : decide (x.fs = y.fs) = c
  cases c <;> cbv <;> simp only [F]
  · have hn := of_decide_eq_false hc
    exact LeV.tb hr (by simp [hn])
  have h1 := of_decide_eq_true hc
  clear hc
  exact LeV.tb hr (by simp [h0, h1])
theorem ret_eqBranchS (a b : List (BranchD)) (hb : szL sizeBranch a ≤ 68719476736) : Ret pg 65 true [.sl .shr 3 (rows branchR a), .sl .shr 3 (rows branchR b)] [] (.b (decide (a = b))) := by
  have hl : a.length ≤ 68719476736 := Nat.le_trans (szL_len _ _) hb
  generalize hr : V.b (decide (a = b)) = r
  refine ret0 Try.func65 rfl (by decide +kernel) rfl (hr ▸ trivial) ?_
  cbv; simp only [F]
  split <;> (rename_i h; simp only [h]; cbv; simp only [F])
  · exact LeV.tb hr (decide_eq_false (ne_llenB h)).symm
  have hlen := lt_llenB h
  clear h
  refine LoopK.intro (α := Nat) [0, 1, 5] [] (fun i => [(5, .i .i64 i)]) (fun _ => []) (fun n i => n = a.length - i ∧ i ≤ a.length ∧ a.take i = b.take i) ⟨_, 0, ⟨rfl, by omega, by simp⟩, rfl⟩ fun n i hi => ?_
  obtain ⟨rfl, hi, hx⟩ := hi
  cbv; simp only [F]
  split <;> (rename_i h; simp only [h]; cbv; simp only [F])
  · have h' := lt_llen h
    clear h
    obtain ⟨y, hy⟩ := get_lt (l := a) (i := i) h'
    obtain ⟨z, hz⟩ := get_lt (l := b) (i := i) (by omega)
    refine ⟨inr_rowsN hy, _, at_rowsN hy, ?_⟩
    cbv; simp only [F]
    refine ⟨inr_rowsN hz, _, at_rowsN hz, ?_⟩
    cbv; simp only [F]
    refine CallK.intro (ret_eqBranch y z (Nat.le_trans (szL_at sizeBranch hy) hb)) ?_
    generalize hc : decide (y = z) = c
    cases c <;> cbv <;> simp only [F]
    · exact LeV.tb hr (decide_eq_false (ne_at hy hz (of_decide_eq_false hc))).symm
    · rw [add_one h' (by omega)]
      exact ⟨_, i + 1, ⟨Nat.sub_succ_lt_self _ _ h', rfl, h', take_eq_snoc hx hy hz (of_decide_eq_true hc)⟩, rfl⟩
  · exact LeV.tb hr (decide_eq_true (eq_of_take hx (ge_llen h) hlen)).symm
theorem ret_eqMove (x y : MoveD) (hb : sizeMove x ≤ 68719476736) : Ret pg 66 true [.ag (moveC x), .ag (moveC y)] [] (.b (decide (x = y))) := by
  have hd : decide (x = y) = decide (x.on = y.on ∧ x.cln = y.cln ∧ x.src = y.src ∧ x.dst = y.dst ∧ x.path = y.path ∧ x.gen = y.gen ∧ x.dn = y.dn) := by
    obtain ⟨a0, a1, a2, a3, a4, a5, a6⟩ := x; obtain ⟨b0, b1, b2, b3, b4, b5, b6⟩ := y; simp only [MoveD.mk.injEq]
  rw [hd]
  generalize hr : V.b (decide (x.on = y.on ∧ x.cln = y.cln ∧ x.src = y.src ∧ x.dst = y.dst ∧ x.path = y.path ∧ x.gen = y.gen ∧ x.dn = y.dn)) = r
  clear hd
  obtain ⟨a0, a1, a2, a3, a4, a5, a6⟩ := x
  obtain ⟨b0, b1, b2, b3, b4, b5, b6⟩ := y
  dsimp only at hr
  refine ret0 Try.func66 rfl (by decide +kernel) rfl (hr ▸ trivial) ?_
  cbv; simp only [F]
  by_cases h0 : ¬ a0 = b0
  · simp only [decide_eq_false h0]
    cbv; simp only [F]
    exact LeV.tb hr (by simp [h0])
  have h0 := Decidable.not_not.1 h0
  simp only [decide_eq_true h0]
  cbv; simp only [F]
  by_cases h1 : ¬ a1 = b1
  · simp only [decide_eq_false h1]
    cbv; simp only [F]
    exact LeV.tb hr (by simp [h1])
  have h1 := Decidable.not_not.1 h1
  simp only [decide_eq_true h1]
  cbv; simp only [F]
  split <;> (rename_i h; simp only [h]; cbv; simp only [F])
  · have hn := not_true_neq h
    exact LeV.tb hr (by simp [hn])
  have h2 := not_false_neq h
  clear h
  split <;> (rename_i h; simp only [h]; cbv; simp only [F])
  · have hn := not_true_neq h
    exact LeV.tb hr (by simp [hn])
  have h3 := not_false_neq h
  clear h
  split <;> (rename_i h; simp only [h]; cbv; simp only [F])
  · have hn := not_true_neqs h
    exact LeV.tb hr (by simp [hn])
  have h4 := not_false_neqs h
  clear h
  split <;> (rename_i h; simp only [h]; cbv; simp only [F])
  · have hn := not_true_neq h
    exact LeV.tb hr (by simp [hn])
  have h5 := not_false_neq h
  clear h
  split <;> (rename_i h; simp only [h]; cbv; simp only [F])
  · have hn := not_true_neq h
    exact LeV.tb hr (by simp [hn])
  have h6 := not_false_neq h
  clear h
  exact LeV.tb hr (by simp [h0, h1, h2, h3, h4, h5, h6])
theorem ret_eqPool (x y : PoolD) (hb : sizePool x ≤ 68719476736) : Ret pg 27 true [.ag (poolC x), .ag (poolC y)] [] (.b (decide (x = y))) := by
  have hd : decide (x = y) = decide (x.policy = y.policy ∧ x.minFree = y.minFree ∧ x.branches = y.branches ∧ x.move = y.move) := by
    obtain ⟨a0, a1, a2, a3⟩ := x; obtain ⟨b0, b1, b2, b3⟩ := y; simp only [PoolD.mk.injEq]
  rw [hd]
  generalize hr : V.b (decide (x.policy = y.policy ∧ x.minFree = y.minFree ∧ x.branches = y.branches ∧ x.move = y.move)) = r
  clear hd
  refine ret0 Try.func27 rfl (by decide +kernel) rfl (hr ▸ trivial) ?_
  cbv; simp only [F]
  split <;> (rename_i h; simp only [h]; cbv; simp only [F])
  · have hn := not_true_neq h
    exact LeV.tb hr (by simp [hn])
  have h0 := not_false_neq h
  clear h
  split <;> (rename_i h; simp only [h]; cbv; simp only [F])
  · have hn := not_true_neq h
    exact LeV.tb hr (by simp [hn])
  have h1 := not_false_neq h
  clear h
  refine CallK.intro (ret_eqBranchS x.branches y.branches (by unfold sizePool at hb; omega)) ?_
  generalize hc : decide (x.branches = y.branches) = c
  cases c <;> cbv <;> simp only [F]
  · have hn := of_decide_eq_false hc
    exact LeV.tb hr (by simp [hn])
  have h2 := of_decide_eq_true hc
  clear hc
  refine CallK.intro (ret_eqMove x.move y.move (by unfold sizePool at hb; omega)) ?_
  generalize hc : decide (x.move = y.move) = c
  cases c <;> cbv <;> simp only [F]
  · have hn := of_decide_eq_false hc
    exact LeV.tb hr (by simp [hn])
  have h3 := of_decide_eq_true hc
  clear hc
  exact LeV.tb hr (by simp [h0, h1, h2, h3])
theorem ret_eqStep (x y : StepD) (hb : sizeStep x ≤ 68719476736) : Ret pg 28 true [.ag (stepC x), .ag (stepC y)] [] (.b (decide (x = y))) := by
  have hd : decide (x = y) = decide (x.branch = y.branch ∧ x.fs = y.fs) := by
    obtain ⟨a0, a1⟩ := x; obtain ⟨b0, b1⟩ := y; simp only [StepD.mk.injEq]
  rw [hd]
  generalize hr : V.b (decide (x.branch = y.branch ∧ x.fs = y.fs)) = r
  clear hd
  refine ret0 Try.func28 rfl (by decide +kernel) rfl (hr ▸ trivial) ?_
  cbv; simp only [F]
  split <;> (rename_i h; simp only [h]; cbv; simp only [F])
  · have hn := not_true_neq h
    exact LeV.tb hr (by simp [hn])
  have h0 := not_false_neq h
  clear h
  refine CallK.intro (ret_eqFs x.fs y.fs (by unfold sizeStep at hb; omega)) ?_
  generalize hc : decide (x.fs = y.fs) = c
  cases c <;> cbv <;> simp only [F]
  · have hn := of_decide_eq_false hc
    exact LeV.tb hr (by simp [hn])
  have h1 := of_decide_eq_true hc
  clear hc
  exact LeV.tb hr (by simp [h0, h1])
theorem ret_eqPut (x y : PutD) (hb : sizePut x ≤ 68719476736) : Ret pg 87 true [.ag (putC x), .ag (putC y)] [] (.b (decide (x = y))) := by
  have hd : decide (x = y) = decide (x.pos = y.pos ∧ x.data = y.data) := by
    obtain ⟨a0, a1⟩ := x; obtain ⟨b0, b1⟩ := y; simp only [PutD.mk.injEq]
  rw [hd]
  generalize hr : V.b (decide (x.pos = y.pos ∧ x.data = y.data)) = r
  clear hd
  refine ret0 Try.func87 rfl (by decide +kernel) rfl (hr ▸ trivial) ?_
  cbv; simp only [F]
  split <;> (rename_i h; simp only [h]; cbv; simp only [F])
  · have hn := not_true_neq h
    exact LeV.tb hr (by simp [hn])
  have h0 := not_false_neq h
  clear h
  split <;> (rename_i h; simp only [h]; cbv; simp only [F])
  · have hn := not_true_neqs h
    exact LeV.tb hr (by simp [hn])
  have h1 := not_false_neqs h
  clear h
  exact LeV.tb hr (by simp [h0, h1])
theorem ret_eqPutS (a b : List (PutD)) (hb : szL sizePut a ≤ 68719476736) : Ret pg 48 true [.sl .shr 2 (rows putR a), .sl .shr 2 (rows putR b)] [] (.b (decide (a = b))) := by
  have hl : a.length ≤ 68719476736 := Nat.le_trans (szL_len _ _) hb
  generalize hr : V.b (decide (a = b)) = r
  refine ret0 Try.func48 rfl (by decide +kernel) rfl (hr ▸ trivial) ?_
  cbv; simp only [F]
  split <;> (rename_i h; simp only [h]; cbv; simp only [F])
  · exact LeV.tb hr (decide_eq_false (ne_llenB h)).symm
  have hlen := lt_llenB h
  clear h
  refine LoopK.intro (α := Nat) [0, 1, 5] [] (fun i => [(5, .i .i64 i)]) (fun _ => []) (fun n i => n = a.length - i ∧ i ≤ a.length ∧ a.take i = b.take i) ⟨_, 0, ⟨rfl, by omega, by simp⟩, rfl⟩ fun n i hi => ?_
  obtain ⟨rfl, hi, hx⟩ := hi
  cbv; simp only [F]
  split <;> (rename_i h; simp only [h]; cbv; simp only [F])
  · have h' := lt_llen h
    clear h
    obtain ⟨y, hy⟩ := get_lt (l := a) (i := i) h'
    obtain ⟨z, hz⟩ := get_lt (l := b) (i := i) (by omega)
    refine ⟨inr_rowsN hy, _, at_rowsN hy, ?_⟩
    cbv; simp only [F]
    refine ⟨inr_rowsN hz, _, at_rowsN hz, ?_⟩
    cbv; simp only [F]
    refine CallK.intro (ret_eqPut y z (Nat.le_trans (szL_at sizePut hy) hb)) ?_
    generalize hc : decide (y = z) = c
    cases c <;> cbv <;> simp only [F]
    · exact LeV.tb hr (decide_eq_false (ne_at hy hz (of_decide_eq_false hc))).symm
    · rw [add_one h' (by omega)]
      exact ⟨_, i + 1, ⟨Nat.sub_succ_lt_self _ _ h', rfl, h', take_eq_snoc hx hy hz (of_decide_eq_true hc)⟩, rfl⟩
  · exact LeV.tb hr (decide_eq_true (eq_of_take hx (ge_llen h) hlen)).symm
theorem ret_eqDisk (x y : DiskD) (hb : sizeDisk x ≤ 68719476736) : Ret pg 15 true [.ag (diskC x), .ag (diskC y)] [] (.b (decide (x = y))) := by
  have hd : decide (x = y) = decide (x.sectors = y.sectors ∧ x.pend = y.pend) := by
    obtain ⟨a0, a1⟩ := x; obtain ⟨b0, b1⟩ := y; simp only [DiskD.mk.injEq]
  rw [hd]
  generalize hr : V.b (decide (x.sectors = y.sectors ∧ x.pend = y.pend)) = r
  clear hd
  refine ret0 Try.func15 rfl (by decide +kernel) rfl (hr ▸ trivial) ?_
  cbv; simp only [F]
  refine CallK.intro (ret_eqStringS x.sectors y.sectors (by unfold sizeDisk at hb; omega)) ?_
  generalize hc : decide (x.sectors = y.sectors) = c
  cases c <;> cbv <;> simp only [F]
  · have hn := of_decide_eq_false hc
    exact LeV.tb hr (by simp [hn])
  have h0 := of_decide_eq_true hc
  clear hc
  refine CallK.intro (ret_eqPutS x.pend y.pend (by unfold sizeDisk at hb; omega)) ?_
  generalize hc : decide (x.pend = y.pend) = c
  cases c <;> cbv <;> simp only [F]
  · have hn := of_decide_eq_false hc
    exact LeV.tb hr (by simp [hn])
  have h1 := of_decide_eq_true hc
  clear hc
  exact LeV.tb hr (by simp [h0, h1])
theorem ret_eqEvent (x y : EventD) (hb : sizeEvent x ≤ 68719476736) : Ret pg 64 true [.ag (eventC x), .ag (eventC y)] [] (.b (decide (x = y))) := by
  have hd : decide (x = y) = decide (x.kind = y.kind ∧ x.pos = y.pos ∧ x.data = y.data) := by
    obtain ⟨a0, a1, a2⟩ := x; obtain ⟨b0, b1, b2⟩ := y; simp only [EventD.mk.injEq]
  rw [hd]
  generalize hr : V.b (decide (x.kind = y.kind ∧ x.pos = y.pos ∧ x.data = y.data)) = r
  clear hd
  refine ret0 Try.func64 rfl (by decide +kernel) rfl (hr ▸ trivial) ?_
  cbv; simp only [F]
  split <;> (rename_i h; simp only [h]; cbv; simp only [F])
  · have hn := not_true_neq h
    exact LeV.tb hr (by simp [hn])
  have h0 := not_false_neq h
  clear h
  split <;> (rename_i h; simp only [h]; cbv; simp only [F])
  · have hn := not_true_neq h
    exact LeV.tb hr (by simp [hn])
  have h1 := not_false_neq h
  clear h
  split <;> (rename_i h; simp only [h]; cbv; simp only [F])
  · have hn := not_true_neqs h
    exact LeV.tb hr (by simp [hn])
  have h2 := not_false_neqs h
  clear h
  exact LeV.tb hr (by simp [h0, h1, h2])
theorem ret_eqEventS (a b : List (EventD)) (hb : szL sizeEvent a ≤ 68719476736) : Ret pg 26 true [.sl .shr 3 (rows eventR a), .sl .shr 3 (rows eventR b)] [] (.b (decide (a = b))) := by
  have hl : a.length ≤ 68719476736 := Nat.le_trans (szL_len _ _) hb
  generalize hr : V.b (decide (a = b)) = r
  refine ret0 Try.func26 rfl (by decide +kernel) rfl (hr ▸ trivial) ?_
  cbv; simp only [F]
  split <;> (rename_i h; simp only [h]; cbv; simp only [F])
  · exact LeV.tb hr (decide_eq_false (ne_llenB h)).symm
  have hlen := lt_llenB h
  clear h
  refine LoopK.intro (α := Nat) [0, 1, 5] [] (fun i => [(5, .i .i64 i)]) (fun _ => []) (fun n i => n = a.length - i ∧ i ≤ a.length ∧ a.take i = b.take i) ⟨_, 0, ⟨rfl, by omega, by simp⟩, rfl⟩ fun n i hi => ?_
  obtain ⟨rfl, hi, hx⟩ := hi
  cbv; simp only [F]
  split <;> (rename_i h; simp only [h]; cbv; simp only [F])
  · have h' := lt_llen h
    clear h
    obtain ⟨y, hy⟩ := get_lt (l := a) (i := i) h'
    obtain ⟨z, hz⟩ := get_lt (l := b) (i := i) (by omega)
    refine ⟨inr_rowsN hy, _, at_rowsN hy, ?_⟩
    cbv; simp only [F]
    refine ⟨inr_rowsN hz, _, at_rowsN hz, ?_⟩
    cbv; simp only [F]
    refine CallK.intro (ret_eqEvent y z (Nat.le_trans (szL_at sizeEvent hy) hb)) ?_
    generalize hc : decide (y = z) = c
    cases c <;> cbv <;> simp only [F]
    · exact LeV.tb hr (decide_eq_false (ne_at hy hz (of_decide_eq_false hc))).symm
    · rw [add_one h' (by omega)]
      exact ⟨_, i + 1, ⟨Nat.sub_succ_lt_self _ _ h', rfl, h', take_eq_snoc hx hy hz (of_decide_eq_true hc)⟩, rfl⟩
  · exact LeV.tb hr (decide_eq_true (eq_of_take hx (ge_llen h) hlen)).symm
end Go.Ar
