import Derived.Test.YtogidplgdeghgaaGreatArGt0
namespace Go.Ar
open Go.Proofs
set_option linter.unusedVariables false
set_option linter.unusedSimpArgs false
set_option maxRecDepth 20000
theorem ret_eqIntS (a b : List (Int)) (hb : szL szInt a ≤ 68719476736) : Ret pg 210 true [.sl .shr 1 (rows intR a), .sl .shr 1 (rows intR b)] [] (.b (decide (a = b))) := by
 have hl : a.length ≤ 68719476736 := Nat.le_trans (szL_len _ _) hb
 generalize hr : V.b (decide (a = b)) = r
 refine ret0 Tryz.func210 rfl (by decide +kernel) rfl (hr ▸ trivial) ?_
 cbv; simp only [F]
 split <;> (rename_i h; simp only [h]; cbv; simp only [F])
 ·exact LeV.tb hr (decide_eq_false (ne_llenB h)).symm
 have hlen := lt_llenB h
 clear h
 refine LoopK.intro (α := Nat) [0, 1, 5] [] (fun i => [(5, .i .i64 i)]) (fun _ => []) (fun n i => n = a.length - i ∧ i ≤ a.length ∧ a.take i = b.take i) ⟨_, 0, ⟨rfl, by omega, by simp⟩, rfl⟩ fun n i hi => ?_
 obtain ⟨rfl, hi, hx⟩ := hi
 cbv; simp only [F]
 split <;> (rename_i h; simp only [h]; cbv; simp only [F])
 ·have h' := lt_llen h
  clear h
  obtain ⟨y, hy⟩ := get_lt (l := a) (i := i) h'
  obtain ⟨z, hz⟩ := get_lt (l := b) (i := i) (by omega)
  refine ⟨inr_rowsN hy, _, at_rowsN hy, ?_⟩
  cbv; simp only [F]
  refine ⟨inr_rowsN hz, _, at_rowsN hz, ?_⟩
  cbv; simp only [F]
  split <;> (rename_i h; simp only [h]; cbv; simp only [F])
  ·exact LeV.tb hr (decide_eq_false (ne_at hy hz (not_true_neq h))).symm
  ·rw [add_one h' (by omega)]
   exact ⟨_, i + 1, ⟨Nat.sub_succ_lt_self _ _ h', rfl, h', take_eq_snoc hx hy hz (not_false_neq h)⟩, rfl⟩
 ·exact LeV.tb hr (decide_eq_true (eq_of_take hx (ge_llen h) hlen)).symm
theorem ret_eqStringS (a b : List (List UInt8)) (hb : szL List.length a ≤ 68719476736) : Ret pg 68 true [.sl .shr 1 (rows strR a), .sl .shr 1 (rows strR b)] [] (.b (decide (a = b))) := by
 have hl : a.length ≤ 68719476736 := Nat.le_trans (szL_len _ _) hb
 generalize hr : V.b (decide (a = b)) = r
 refine ret0 Tryz.func68 rfl (by decide +kernel) rfl (hr ▸ trivial) ?_
 cbv; simp only [F]
 split <;> (rename_i h; simp only [h]; cbv; simp only [F])
 ·exact LeV.tb hr (decide_eq_false (ne_llenB h)).symm
 have hlen := lt_llenB h
 clear h
 refine LoopK.intro (α := Nat) [0, 1, 5] [] (fun i => [(5, .i .i64 i)]) (fun _ => []) (fun n i => n = a.length - i ∧ i ≤ a.length ∧ a.take i = b.take i) ⟨_, 0, ⟨rfl, by omega, by simp⟩, rfl⟩ fun n i hi => ?_
 obtain ⟨rfl, hi, hx⟩ := hi
 cbv; simp only [F]
 split <;> (rename_i h; simp only [h]; cbv; simp only [F])
 ·have h' := lt_llen h
  clear h
  obtain ⟨y, hy⟩ := get_lt (l := a) (i := i) h'
  obtain ⟨z, hz⟩ := get_lt (l := b) (i := i) (by omega)
  refine ⟨inr_rowsN hy, _, at_rowsN hy, ?_⟩
  cbv; simp only [F]
  refine ⟨inr_rowsN hz, _, at_rowsN hz, ?_⟩
  cbv; simp only [F]
  split <;> (rename_i h; simp only [h]; cbv; simp only [F])
  ·exact LeV.tb hr (decide_eq_false (ne_at hy hz (not_true_neqs h))).symm
  ·rw [add_one h' (by omega)]
   exact ⟨_, i + 1, ⟨Nat.sub_succ_lt_self _ _ h', rfl, h', take_eq_snoc hx hy hz (not_false_neqs h)⟩, rfl⟩
 ·exact LeV.tb hr (decide_eq_true (eq_of_take hx (ge_llen h) hlen)).symm
theorem ret_eqNode (x y : NodeD) (hb : sizeNode x ≤ 68719476736) : Ret pg 148 true [.ag (nodeC x), .ag (nodeC y)] [] (.b (decide (x = y))) := by
 have hd : decide (x = y) = decide (x.kind = y.kind ∧ x.gen = y.gen ∧ x.time = y.time ∧ x.size = y.size ∧ x.blocks = y.blocks) := by
  obtain ⟨a0, a1, a2, a3, a4⟩ := x; obtain ⟨b0, b1, b2, b3, b4⟩ := y; simp only [NodeD.mk.injEq]
 rw [hd]
 generalize hr : V.b (decide (x.kind = y.kind ∧ x.gen = y.gen ∧ x.time = y.time ∧ x.size = y.size ∧ x.blocks = y.blocks)) = r
 clear hd
 refine ret0 Tryz.func148 rfl (by decide +kernel) rfl (hr ▸ trivial) ?_
 cbv; simp only [F]
 split <;> (rename_i h; simp only [h]; cbv; simp only [F])
 ·have hn := not_true_neq h
  exact LeV.tb hr (by simp [hn])
 have h0 := not_false_neq h
 clear h
 split <;> (rename_i h; simp only [h]; cbv; simp only [F])
 ·have hn := not_true_neq h
  exact LeV.tb hr (by simp [hn])
 have h1 := not_false_neq h
 clear h
 split <;> (rename_i h; simp only [h]; cbv; simp only [F])
 ·have hn := not_true_neq h
  exact LeV.tb hr (by simp [hn])
 have h2 := not_false_neq h
 clear h
 split <;> (rename_i h; simp only [h]; cbv; simp only [F])
 ·have hn := not_true_neq h
  exact LeV.tb hr (by simp [hn])
 have h3 := not_false_neq h
 clear h
 refine CallK.intro (ret_eqIntS x.blocks y.blocks (by unfold sizeNode at hb; omega)) ?_
 generalize hc : decide (x.blocks = y.blocks) = c
 cases c <;> cbv <;> simp only [F]
 ·have hn := of_decide_eq_false hc
  exact LeV.tb hr (by simp [hn])
 have h4 := of_decide_eq_true hc
 clear hc
 exact LeV.tb hr (by simp [h0, h1, h2, h3, h4])
theorem ret_eqNodeS (a b : List (NodeD)) (hb : szL sizeNode a ≤ 68719476736) : Ret pg 67 true [.sl .shr 5 (rows nodeR a), .sl .shr 5 (rows nodeR b)] [] (.b (decide (a = b))) := by
 have hl : a.length ≤ 68719476736 := Nat.le_trans (szL_len _ _) hb
 generalize hr : V.b (decide (a = b)) = r
 refine ret0 Tryz.func67 rfl (by decide +kernel) rfl (hr ▸ trivial) ?_
 cbv; simp only [F]
 split <;> (rename_i h; simp only [h]; cbv; simp only [F])
 ·exact LeV.tb hr (decide_eq_false (ne_llenB h)).symm
 have hlen := lt_llenB h
 clear h
 refine LoopK.intro (α := Nat) [0, 1, 5] [] (fun i => [(5, .i .i64 i)]) (fun _ => []) (fun n i => n = a.length - i ∧ i ≤ a.length ∧ a.take i = b.take i) ⟨_, 0, ⟨rfl, by omega, by simp⟩, rfl⟩ fun n i hi => ?_
 obtain ⟨rfl, hi, hx⟩ := hi
 cbv; simp only [F]
 split <;> (rename_i h; simp only [h]; cbv; simp only [F])
 ·have h' := lt_llen h
  clear h
  obtain ⟨y, hy⟩ := get_lt (l := a) (i := i) h'
  obtain ⟨z, hz⟩ := get_lt (l := b) (i := i) (by omega)
  refine ⟨inr_rowsN hy, _, at_rowsN hy, ?_⟩
  cbv; simp only [F]
  refine ⟨inr_rowsN hz, _, at_rowsN hz, ?_⟩
  cbv; simp only [F]
  refine CallK.intro (ret_eqNode y z (Nat.le_trans (szL_at sizeNode hy) hb)) ?_
  generalize hc : decide (y = z) = c
  cases c <;> cbv <;> simp only [F]
  ·exact LeV.tb hr (decide_eq_false (ne_at hy hz (of_decide_eq_false hc))).symm
  ·rw [add_one h' (by omega)]
   exact ⟨_, i + 1, ⟨Nat.sub_succ_lt_self _ _ h', rfl, h', take_eq_snoc hx hy hz (of_decide_eq_true hc)⟩, rfl⟩
 ·exact LeV.tb hr (decide_eq_true (eq_of_take hx (ge_llen h) hlen)).symm
theorem ret_eqFs (x y : FsD) (hb : sizeFs x ≤ 68719476736) : Ret pg 19 true [.ag (fsC x), .ag (fsC y)] [] (.b (decide (x = y))) := by
 have hd : decide (x = y) = decide (x.nodes = y.nodes ∧ x.data = y.data) := by
  obtain ⟨a0, a1⟩ := x; obtain ⟨b0, b1⟩ := y; simp only [FsD.mk.injEq]
 rw [hd]
 generalize hr : V.b (decide (x.nodes = y.nodes ∧ x.data = y.data)) = r
 clear hd
 refine ret0 Tryz.func19 rfl (by decide +kernel) rfl (hr ▸ trivial) ?_
 cbv; simp only [F]
 refine CallK.intro (ret_eqNodeS x.nodes y.nodes (by unfold sizeFs at hb; omega)) ?_
 generalize hc : decide (x.nodes = y.nodes) = c
 cases c <;> cbv <;> simp only [F]
 ·have hn := of_decide_eq_false hc
  exact LeV.tb hr (by simp [hn])
 have h0 := of_decide_eq_true hc
 clear hc
 refine CallK.intro (ret_eqStringS x.data y.data (by unfold sizeFs at hb; omega)) ?_
 generalize hc : decide (x.data = y.data) = c
 cases c <;> cbv <;> simp only [F]
 ·have hn := of_decide_eq_false hc
  exact LeV.tb hr (by simp [hn])
 have h1 := of_decide_eq_true hc
 clear hc
 exact LeV.tb hr (by simp [h0, h1])
theorem ret_eqPut (x y : PutD) (hb : sizePut x ≤ 68719476736) : Ret pg 149 true [.ag (putC x), .ag (putC y)] [] (.b (decide (x = y))) := by
 have hd : decide (x = y) = decide (x.pos = y.pos ∧ x.data = y.data) := by
  obtain ⟨a0, a1⟩ := x; obtain ⟨b0, b1⟩ := y; simp only [PutD.mk.injEq]
 rw [hd]
 generalize hr : V.b (decide (x.pos = y.pos ∧ x.data = y.data)) = r
 clear hd
 refine ret0 Tryz.func149 rfl (by decide +kernel) rfl (hr ▸ trivial) ?_
 cbv; simp only [F]
 split <;> (rename_i h; simp only [h]; cbv; simp only [F])
 ·have hn := not_true_neq h
  exact LeV.tb hr (by simp [hn])
 have h0 := not_false_neq h
 clear h
 split <;> (rename_i h; simp only [h]; cbv; simp only [F])
 ·have hn := not_true_neqs h
  exact LeV.tb hr (by simp [hn])
 have h1 := not_false_neqs h
 clear h
 exact LeV.tb hr (by simp [h0, h1])
theorem ret_eqPutS (a b : List (PutD)) (hb : szL sizePut a ≤ 68719476736) : Ret pg 69 true [.sl .shr 2 (rows putR a), .sl .shr 2 (rows putR b)] [] (.b (decide (a = b))) := by
 have hl : a.length ≤ 68719476736 := Nat.le_trans (szL_len _ _) hb
 generalize hr : V.b (decide (a = b)) = r
 refine ret0 Tryz.func69 rfl (by decide +kernel) rfl (hr ▸ trivial) ?_
 cbv; simp only [F]
 split <;> (rename_i h; simp only [h]; cbv; simp only [F])
 ·exact LeV.tb hr (decide_eq_false (ne_llenB h)).symm
 have hlen := lt_llenB h
 clear h
 refine LoopK.intro (α := Nat) [0, 1, 5] [] (fun i => [(5, .i .i64 i)]) (fun _ => []) (fun n i => n = a.length - i ∧ i ≤ a.length ∧ a.take i = b.take i) ⟨_, 0, ⟨rfl, by omega, by simp⟩, rfl⟩ fun n i hi => ?_
 obtain ⟨rfl, hi, hx⟩ := hi
 cbv; simp only [F]
 split <;> (rename_i h; simp only [h]; cbv; simp only [F])
 ·have h' := lt_llen h
  clear h
  obtain ⟨y, hy⟩ := get_lt (l := a) (i := i) h'
  obtain ⟨z, hz⟩ := get_lt (l := b) (i := i) (by omega)
  refine ⟨inr_rowsN hy, _, at_rowsN hy, ?_⟩
  cbv; simp only [F]
  refine ⟨inr_rowsN hz, _, at_rowsN hz, ?_⟩
  cbv; simp only [F]
  refine CallK.intro (ret_eqPut y z (Nat.le_trans (szL_at sizePut hy) hb)) ?_
  generalize hc : decide (y = z) = c
  cases c <;> cbv <;> simp only [F]
  ·exact LeV.tb hr (decide_eq_false (ne_at hy hz (of_decide_eq_false hc))).symm
  ·rw [add_one h' (by omega)]
   exact ⟨_, i + 1, ⟨Nat.sub_succ_lt_self _ _ h', rfl, h', take_eq_snoc hx hy hz (of_decide_eq_true hc)⟩, rfl⟩
 ·exact LeV.tb hr (decide_eq_true (eq_of_take hx (ge_llen h) hlen)).symm
theorem ret_eqDisk (x y : DiskD) (hb : sizeDisk x ≤ 68719476736) : Ret pg 20 true [.ag (diskC x), .ag (diskC y)] [] (.b (decide (x = y))) := by
 have hd : decide (x = y) = decide (x.sectors = y.sectors ∧ x.pend = y.pend) := by
  obtain ⟨a0, a1⟩ := x; obtain ⟨b0, b1⟩ := y; simp only [DiskD.mk.injEq]
 rw [hd]
 generalize hr : V.b (decide (x.sectors = y.sectors ∧ x.pend = y.pend)) = r
 clear hd
 refine ret0 Tryz.func20 rfl (by decide +kernel) rfl (hr ▸ trivial) ?_
 cbv; simp only [F]
 refine CallK.intro (ret_eqStringS x.sectors y.sectors (by unfold sizeDisk at hb; omega)) ?_
 generalize hc : decide (x.sectors = y.sectors) = c
 cases c <;> cbv <;> simp only [F]
 ·have hn := of_decide_eq_false hc
  exact LeV.tb hr (by simp [hn])
 have h0 := of_decide_eq_true hc
 clear hc
 refine CallK.intro (ret_eqPutS x.pend y.pend (by unfold sizeDisk at hb; omega)) ?_
 generalize hc : decide (x.pend = y.pend) = c
 cases c <;> cbv <;> simp only [F]
 ·have hn := of_decide_eq_false hc
  exact LeV.tb hr (by simp [hn])
 have h1 := of_decide_eq_true hc
 clear hc
 exact LeV.tb hr (by simp [h0, h1])
end Go.Ar
