import Derived.Test.YtogidplgdeghgaaGreatArGt0
namespace Go.Ar
open Go.Proofs
set_option linter.unusedVariables false
set_option linter.unusedSimpArgs false
set_option maxRecDepth 20000
theorem ret_heldIntS (l : List (Int)) (k : Int) (h1 : MkB k (sumS cntInt l)) (hl : szL szInt l ≤ 68719476736) : Ret pg 151 true [.sl .shr 1 (rows intR (mkL cntInt mkInt k l)), .i .i64 k] [] (.i .i64 (k + (sumS cntInt l : Nat))) := by
 have hll : l.length ≤ 68719476736 := Nat.le_trans (szL_len _ _) hl
 generalize hr : V.i .i64 (k + (sumS cntInt l : Nat)) = r
 have hxa : ∀ (i : Nat) (y : Int), l[i]? = some y → (mkL cntInt mkInt k l)[i]? = some (mkInt (k + (sumS cntInt (l.take i) : Nat)) y) := fun i y h => mkL_at cntInt mkInt h k
 have hxl : (mkL cntInt mkInt k l).length = l.length := mkL_len _ _ _ _
 generalize mkL cntInt mkInt k l = x at hxa hxl ⊢
 refine ret0 Tryz.func151 rfl (by decide +kernel) rfl (hr ▸ trivial) ?_
 cbv; simp only [F]
 refine LoopK.intro (α := Nat × Int) [0, 1, 5] [] (fun a => [(1, .i .i64 a.2), (5, .i .i64 a.1)]) (fun _ => []) (fun n a => n = l.length - a.1 ∧ HeI cntInt l k a.1 a.2) ⟨_, (0, k), ⟨rfl, HeI.zero⟩, rfl⟩ fun n a ha => ?_
 obtain ⟨i, ki⟩ := a
 obtain ⟨rfl, hI⟩ := ha
 dsimp only at hI ⊢
 cbv; simp only [F]
 split <;> (rename_i h; simp only [h]; cbv; simp only [F])
 ·obtain ⟨y, hyl⟩ := get_lt (l := l) (i := i) (hxl ▸ lt_llen h)
  clear h
  have hB := hI.ok hyl h1
  have hy := hxa i y hyl
  rw [← hI.1] at hy
  refine ⟨inr_rowsN hy, _, at_rowsN hy, ?_⟩
  generalize hg0 : mkInt ki y = g0 at hy ⊢
  have hg0 : ki = g0 := hg0
  cbv; simp only [F]
  have hgg : g0 = ki := hg0.symm
  simp only [hgg, neq_self]
  cbv; simp only [F]
  generalize e0 : iop .add .i64 ki 1 = k1
  have q0 := inc_one e0 hB.1 (by have := hB.2; omega)
  clear e0
  rw [add_one (get_lt_len hyl) (by omega)]
  refine ⟨_, (i + 1, k1), ⟨Nat.sub_succ_lt_self _ _ (get_lt_len hyl), rfl, ?_⟩, rfl⟩
  refine hI.step hyl ?_
  try dsimp only
  show _ = ki + ((1 : Nat) : Int)
  omega
 ·exact LeV.ti hr (hI.done (hxl ▸ ge_llen h))
theorem ret_heldStringS (l : List (List UInt8)) (k : Int) (h1 : MkB k (sumS cntStr l)) (hl : szL List.length l ≤ 68719476736) : Ret pg 74 true [.sl .shr 1 (rows strR (mkL cntStr mkStr k l)), .i .i64 k] [] (.i .i64 (k + (sumS cntStr l : Nat))) := by
 have hll : l.length ≤ 68719476736 := Nat.le_trans (szL_len _ _) hl
 generalize hr : V.i .i64 (k + (sumS cntStr l : Nat)) = r
 have hxa : ∀ (i : Nat) (y : List UInt8), l[i]? = some y → (mkL cntStr mkStr k l)[i]? = some (mkStr (k + (sumS cntStr (l.take i) : Nat)) y) := fun i y h => mkL_at cntStr mkStr h k
 have hxl : (mkL cntStr mkStr k l).length = l.length := mkL_len _ _ _ _
 generalize mkL cntStr mkStr k l = x at hxa hxl ⊢
 refine ret0 Tryz.func74 rfl (by decide +kernel) rfl (hr ▸ trivial) ?_
 cbv; simp only [F]
 refine LoopK.intro (α := Nat × Int) [0, 1, 5] [] (fun a => [(1, .i .i64 a.2), (5, .i .i64 a.1)]) (fun _ => []) (fun n a => n = l.length - a.1 ∧ HeI cntStr l k a.1 a.2) ⟨_, (0, k), ⟨rfl, HeI.zero⟩, rfl⟩ fun n a ha => ?_
 obtain ⟨i, ki⟩ := a
 obtain ⟨rfl, hI⟩ := ha
 dsimp only at hI ⊢
 cbv; simp only [F]
 split <;> (rename_i h; simp only [h]; cbv; simp only [F])
 ·obtain ⟨y, hyl⟩ := get_lt (l := l) (i := i) (hxl ▸ lt_llen h)
  clear h
  have hB := hI.ok hyl h1
  have hy := hxa i y hyl
  rw [← hI.1] at hy
  refine ⟨inr_rowsN hy, _, at_rowsN hy, ?_⟩
  generalize hg0 : mkStr ki y = g0 at hy ⊢
  have hg0 : textF (ki) = g0 := hg0
  cbv; simp only [F]
  refine CallK.intro (ret_markText ki hB.1 (by have := hB.2; omega)) ?_
  have hgg : textF ki = g0 := by rw [← hg0]
  rw [hgg]
  clear hgg
  cbv; simp only [F]
  simp only [neqs_self]
  cbv; simp only [F]
  generalize e0 : iop .add .i64 ki 1 = k1
  have q0 := inc_one e0 hB.1 (by have := hB.2; omega)
  clear e0
  rw [add_one (get_lt_len hyl) (by omega)]
  refine ⟨_, (i + 1, k1), ⟨Nat.sub_succ_lt_self _ _ (get_lt_len hyl), rfl, ?_⟩, rfl⟩
  refine hI.step hyl ?_
  try dsimp only
  show _ = ki + ((1 : Nat) : Int)
  omega
 ·exact LeV.ti hr (hI.done (hxl ▸ ge_llen h))
theorem ret_heldNodeS (l : List (NodeD)) (k : Int) (h1 : MkB k (sumS cntNode l)) (hl : szL sizeNode l ≤ 68719476736) : Ret pg 73 true [.sl .shr 5 (rows nodeR (mkL cntNode mkNode k l)), .i .i64 k] [] (.i .i64 (k + (sumS cntNode l : Nat))) := by
 have hll : l.length ≤ 68719476736 := Nat.le_trans (szL_len _ _) hl
 generalize hr : V.i .i64 (k + (sumS cntNode l : Nat)) = r
 have hxa : ∀ (i : Nat) (y : NodeD), l[i]? = some y → (mkL cntNode mkNode k l)[i]? = some (mkNode (k + (sumS cntNode (l.take i) : Nat)) y) := fun i y h => mkL_at cntNode mkNode h k
 have hxl : (mkL cntNode mkNode k l).length = l.length := mkL_len _ _ _ _
 generalize mkL cntNode mkNode k l = x at hxa hxl ⊢
 refine ret0 Tryz.func73 rfl (by decide +kernel) rfl (hr ▸ trivial) ?_
 cbv; simp only [F]
 refine LoopK.intro (α := Nat × Int) [0, 1, 5] [] (fun a => [(1, .i .i64 a.2), (5, .i .i64 a.1)]) (fun _ => []) (fun n a => n = l.length - a.1 ∧ HeI cntNode l k a.1 a.2) ⟨_, (0, k), ⟨rfl, HeI.zero⟩, rfl⟩ fun n a ha => ?_
 obtain ⟨i, ki⟩ := a
 obtain ⟨rfl, hI⟩ := ha
 dsimp only at hI ⊢
 cbv; simp only [F]
 split <;> (rename_i h; simp only [h]; cbv; simp only [F])
 ·obtain ⟨y, hyl⟩ := get_lt (l := l) (i := i) (hxl ▸ lt_llen h)
  clear h
  have hB := hI.ok hyl h1
  have hy := hxa i y hyl
  rw [← hI.1] at hy
  refine ⟨inr_rowsN hy, _, at_rowsN hy, ?_⟩
  obtain ⟨f_kind, f_gen, f_time, f_size, f_blocks⟩ := y
  have hsz : szL szInt f_blocks ≤ szL sizeNode l := szL_at sizeNode hyl
  generalize hg : mkNode ki ⟨f_kind, f_gen, f_time, f_size, f_blocks⟩ = g at hy ⊢
  obtain ⟨g_kind, g_gen, g_time, g_size, g_blocks⟩ := g
  simp only [mkNode, NodeD.mk.injEq] at hg
  obtain ⟨hg0, hg1, hg2, hg3, hg4⟩ := hg
  cbv; simp only [F]
  have hgg : g_kind = ki := hg0.symm
  simp only [hgg, neq_self]
  cbv; simp only [F]
  generalize e0 : iop .add .i64 ki 1 = k1
  obtain ⟨q0, hB1⟩ := hB.inc e0 _ (Nat.le_refl _)
  clear e0
  rw [← q0] at hg1 hg2 hg3 hg4
  refine ⟨inr_rowsN hy, _, at_rowsN hy, ?_⟩
  cbv; simp only [F]
  have hgg : g_gen = k1 := hg1.symm
  simp only [hgg, neq_self]
  cbv; simp only [F]
  generalize e1 : iop .add .i64 k1 1 = k2
  obtain ⟨q1, hB2⟩ := hB1.inc e1 _ (Nat.le_refl _)
  clear e1
  rw [← q1] at hg2 hg3 hg4
  refine ⟨inr_rowsN hy, _, at_rowsN hy, ?_⟩
  cbv; simp only [F]
  have hgg : g_time = k2 := hg2.symm
  simp only [hgg, neq_self]
  cbv; simp only [F]
  generalize e2 : iop .add .i64 k2 1 = k3
  obtain ⟨q2, hB3⟩ := hB2.inc e2 _ (Nat.le_refl _)
  clear e2
  rw [← q2] at hg3 hg4
  refine ⟨inr_rowsN hy, _, at_rowsN hy, ?_⟩
  cbv; simp only [F]
  have hgg : g_size = k3 := hg3.symm
  simp only [hgg, neq_self]
  cbv; simp only [F]
  generalize e3 : iop .add .i64 k3 1 = k4
  obtain ⟨q3, hB4⟩ := hB3.inc e3 _ (Nat.le_refl _)
  clear e3
  rw [← q3] at hg4
  refine ⟨inr_rowsN hy, _, at_rowsN hy, ?_⟩
  cbv; simp only [F]
  rw [← hg4]
  refine CallK.intro (ret_heldIntS f_blocks k4 (hB4.sub _ (Nat.le_refl _)) (by omega)) ?_
  generalize e4 : k4 + (sumS cntInt f_blocks : Int) = k5
  have q4 := isAdd e4
  have p4 : icmp .lss k5 0 = false := ge_lss (by have := hB4.1; omega)
  clear e4
  rw [hg4]
  cbv; simp only [F]
  simp only [p4]
  cbv; simp only [F]
  rw [add_one (get_lt_len hyl) (by omega)]
  refine ⟨_, (i + 1, k5), ⟨Nat.sub_succ_lt_self _ _ (get_lt_len hyl), rfl, ?_⟩, rfl⟩
  unfold IsAdd at q4
  refine hI.step hyl ?_
  try dsimp only
  show _ = ki + ((1 + (1 + (1 + (1 + (sumS cntInt f_blocks)))) : Nat) : Int)
  omega
 ·exact LeV.ti hr (hI.done (hxl ▸ ge_llen h))
theorem ret_heldFs (c_nodes : List NodeD) (c_data : List (List UInt8)) (k : Int) (h1 : MkB k (sumS cntNode c_nodes + (sumS cntStr c_data))) (hz0 : szL sizeNode c_nodes ≤ 68719476736) (hz1 : szL List.length c_data ≤ 68719476736) : Ret pg 23 true [.ag [.sl .shr 5 (rows nodeR (mkL cntNode mkNode (k) c_nodes)), .sl .shr 1 (rows strR (mkL cntStr mkStr (k + (sumS cntNode c_nodes : Nat)) c_data))], .i .i64 k] [] (.i .i64 (k + (sumS cntNode c_nodes : Nat) + (sumS cntStr c_data : Nat))) := by
 generalize hr : V.i .i64 (k + (sumS cntNode c_nodes : Nat) + (sumS cntStr c_data : Nat)) = r
 generalize hm0 : mkL cntNode mkNode (k) c_nodes = m0
 generalize hm1 : mkL cntStr mkStr (k + (sumS cntNode c_nodes : Nat)) c_data = m1
 refine ret0 Tryz.func23 rfl (by decide +kernel) rfl (hr ▸ trivial) ?_
 cbv; simp only [F]
 rw [← hm0]
 refine CallK.intro (ret_heldNodeS c_nodes k (h1.sub _ (Nat.le_add_right _ _)) hz0) ?_
 generalize e0 : k + (sumS cntNode c_nodes : Int) = k1 at hr hm1 ⊢
 have q0 := isAdd e0
 have hB1 := h1.addI q0 (Nat.le_refl _)
 have p0 : 0 ≤ k1 := q0.ge h1.1
 clear e0
 have pp : icmp .lss k1 0 = false := ge_lss p0
 try rw [hm0]
 cbv; simp only [F]
 simp only [pp]
 clear pp
 cbv; simp only [F]
 rw [← hm1]
 refine CallK.intro (ret_heldStringS c_data k1 (hB1.sub _ (Nat.le_refl _)) hz1) ?_
 generalize e1 : k1 + (sumS cntStr c_data : Int) = k2 at hr ⊢
 have q1 := isAdd e1
 have p1 : 0 ≤ k2 := q1.ge hB1.1
 clear e1
 have pp : icmp .lss k2 0 = false := ge_lss p1
 try rw [hm1]
 cbv; simp only [F]
 simp only [pp]
 clear pp
 cbv; simp only [F]
 exact LeV.ti hr rfl
end Go.Ar
