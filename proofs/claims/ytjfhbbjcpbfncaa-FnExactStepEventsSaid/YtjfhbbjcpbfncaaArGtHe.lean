import Derived.Test.YtjfhbbjcpbfncaaArGt0
namespace Go.Ar
open Go.Proofs
set_option linter.unusedVariables false
set_option linter.unusedSimpArgs false
set_option maxRecDepth 20000

theorem ret_heldStringS (l : List (List UInt8)) (k : Int) (h1 : MkB k (sumS cntStr l)) (hl : szL List.length l ≤ 68719476736) : Ret pg 53 true [.sl .shr 1 (rows strR (mkL cntStr mkStr k l)), .i .i64 k] [] (.i .i64 (k + (sumS cntStr l : Nat))) := by
  have hll : l.length ≤ 68719476736 := Nat.le_trans (szL_len _ _) hl
  generalize hr : V.i .i64 (k + (sumS cntStr l : Nat)) = r
  have hxa : ∀ (i : Nat) (y : List UInt8), l[i]? = some y → (mkL cntStr mkStr k l)[i]? = some (mkStr (k + (sumS cntStr (l.take i) : Nat)) y) := fun i y h => mkL_at cntStr mkStr h k
  have hxl : (mkL cntStr mkStr k l).length = l.length := mkL_len _ _ _ _
  generalize mkL cntStr mkStr k l = x at hxa hxl ⊢
  refine ret0 Try.func53 rfl (by decide +kernel) rfl (hr ▸ trivial) ?_
  cbv; simp only [F]
  refine LoopK.intro (α := Nat × Int) [0, 1, 5] [] (fun a => [(1, .i .i64 a.2), (5, .i .i64 a.1)]) (fun _ => []) (fun n a => n = l.length - a.1 ∧ HeI cntStr l k a.1 a.2) ⟨_, (0, k), ⟨rfl, HeI.zero⟩, rfl⟩ fun n a ha => ?_
  obtain ⟨i, ki⟩ := a
  obtain ⟨rfl, hI⟩ := ha
  dsimp only at hI ⊢
  cbv; simp only [F]
  split <;> (rename_i h; simp only [h]; cbv; simp only [F])
  · obtain ⟨y, hyl⟩ := get_lt (l := l) (i := i) (hxl ▸ lt_llen h)
    clear h
    have hB := hI.ok hyl h1
    have hy := hxa i y hyl
    rw [← hI.1] at hy
    refine ⟨inr_rowsN hy, _, at_rowsN hy, ?_⟩
    generalize hg0 : mkStr ki y = g0 at hy ⊢
    have hg0 : textF (ki) = g0 := hg0
    cbv; simp only [F]
    refine CallK.intro (ret_markText ki hB.1 (by have := hB.2; omega)) ?_
    have hgg : textF ki = g0 := by rw [← hg0]
    rw [hgg]
    clear hgg
    cbv; simp only [F]
    simp only [neqs_self]
    cbv; simp only [F]
    generalize e0 : iop .add .i64 ki 1 = k1
    have q0 := inc_one e0 hB.1 (by have := hB.2; omega)
    clear e0
    rw [add_one (get_lt_len hyl) (by omega)]
    refine ⟨_, (i + 1, k1), ⟨Nat.sub_succ_lt_self _ _ (get_lt_len hyl), rfl, ?_⟩, rfl⟩
    refine hI.step hyl ?_
    try dsimp only
    show _ = ki + ((1 : Nat) : Int)
    omega
  · exact LeV.ti hr (hI.done (hxl ▸ ge_llen h))
theorem ret_heldPutS (l : List (PutD)) (k : Int) (h1 : MkB k (sumS cntPut l)) (hl : szL sizePut l ≤ 68719476736) : Ret pg 54 true [.sl .shr 2 (rows putR (mkL cntPut mkPut k l)), .i .i64 k] [] (.i .i64 (k + (sumS cntPut l : Nat))) := by
  have hll : l.length ≤ 68719476736 := Nat.le_trans (szL_len _ _) hl
  generalize hr : V.i .i64 (k + (sumS cntPut l : Nat)) = r
  have hxa : ∀ (i : Nat) (y : PutD), l[i]? = some y → (mkL cntPut mkPut k l)[i]? = some (mkPut (k + (sumS cntPut (l.take i) : Nat)) y) := fun i y h => mkL_at cntPut mkPut h k
  have hxl : (mkL cntPut mkPut k l).length = l.length := mkL_len _ _ _ _
  generalize mkL cntPut mkPut k l = x at hxa hxl ⊢
  refine ret0 Try.func54 rfl (by decide +kernel) rfl (hr ▸ trivial) ?_
  cbv; simp only [F]
  refine LoopK.intro (α := Nat × Int) [0, 1, 5] [] (fun a => [(1, .i .i64 a.2), (5, .i .i64 a.1)]) (fun _ => []) (fun n a => n = l.length - a.1 ∧ HeI cntPut l k a.1 a.2) ⟨_, (0, k), ⟨rfl, HeI.zero⟩, rfl⟩ fun n a ha => ?_
  obtain ⟨i, ki⟩ := a
  obtain ⟨rfl, hI⟩ := ha
  dsimp only at hI ⊢
  cbv; simp only [F]
  split <;> (rename_i h; simp only [h]; cbv; simp only [F])
  · obtain ⟨y, hyl⟩ := get_lt (l := l) (i := i) (hxl ▸ lt_llen h)
    clear h
    have hB := hI.ok hyl h1
    have hy := hxa i y hyl
    rw [← hI.1] at hy
    refine ⟨inr_rowsN hy, _, at_rowsN hy, ?_⟩
    obtain ⟨f_pos, f_data⟩ := y
    have hsz : f_data.length ≤ szL sizePut l := szL_at sizePut hyl
    generalize hg : mkPut ki ⟨f_pos, f_data⟩ = g at hy ⊢
    obtain ⟨g_pos, g_data⟩ := g
    simp only [mkPut, PutD.mk.injEq] at hg
    obtain ⟨hg0, hg1⟩ := hg
    cbv; simp only [F]
    have hgg : g_pos = ki := hg0.symm
    simp only [hgg, neq_self]
    cbv; simp only [F]
    generalize e0 : iop .add .i64 ki 1 = k1
    obtain ⟨q0, hB1⟩ := hB.inc e0 _ (Nat.le_refl _)
    clear e0
    rw [← q0] at hg1
    refine ⟨inr_rowsN hy, _, at_rowsN hy, ?_⟩
    cbv; simp only [F]
    refine CallK.intro (ret_markText k1 hB1.1 (by have := hB1.2; omega)) ?_
    have hgg : textF k1 = g_data := by rw [← hg1]
    rw [hgg]
    clear hgg
    cbv; simp only [F]
    simp only [neqs_self]
    cbv; simp only [F]
    generalize e1 : iop .add .i64 k1 1 = k2
    have q1 := inc_one e1 hB1.1 (by have := hB1.2; omega)
    clear e1
    rw [add_one (get_lt_len hyl) (by omega)]
    refine ⟨_, (i + 1, k2), ⟨Nat.sub_succ_lt_self _ _ (get_lt_len hyl), rfl, ?_⟩, rfl⟩
    refine hI.step hyl ?_
    try dsimp only
    show _ = ki + ((1 + (1) : Nat) : Int)
    omega
  · exact LeV.ti hr (hI.done (hxl ▸ ge_llen h))
theorem ret_heldDisk (c_sectors : List (List UInt8)) (c_pend : List PutD) (k : Int) (h1 : MkB k (sumS cntStr c_sectors + (sumS cntPut c_pend))) (hz0 : szL List.length c_sectors ≤ 68719476736) (hz1 : szL sizePut c_pend ≤ 68719476736) : Ret pg 19 true [.ag [.sl .shr 1 (rows strR (mkL cntStr mkStr (k) c_sectors)), .sl .shr 2 (rows putR (mkL cntPut mkPut (k + (sumS cntStr c_sectors : Nat)) c_pend))], .i .i64 k] [] (.i .i64 (k + (sumS cntStr c_sectors : Nat) + (sumS cntPut c_pend : Nat))) := by
  generalize hr : V.i .i64 (k + (sumS cntStr c_sectors : Nat) + (sumS cntPut c_pend : Nat)) = r
  generalize hm0 : mkL cntStr mkStr (k) c_sectors = m0
  generalize hm1 : mkL cntPut mkPut (k + (sumS cntStr c_sectors : Nat)) c_pend = m1
  refine ret0 Try.func19 rfl (by decide +kernel) rfl (hr ▸ trivial) ?_
  cbv; simp only [F]
  rw [← hm0]
  refine CallK.intro (ret_heldStringS c_sectors k (h1.sub _ (Nat.le_add_right _ _)) hz0) ?_
  generalize e0 : k + (sumS cntStr c_sectors : Int) = k1 at hr hm1 ⊢
  have q0 := isAdd e0
  have hB1 := h1.addI q0 (Nat.le_refl _)
  have p0 : 0 ≤ k1 := q0.ge h1.1
  clear e0
  have pp : icmp .lss k1 0 = false := ge_lss p0
  try rw [hm0]
  cbv; simp only [F]
  simp only [pp]
  clear pp
  cbv; simp only [F]
  rw [← hm1]
  refine CallK.intro (ret_heldPutS c_pend k1 (hB1.sub _ (Nat.le_refl _)) hz1) ?_
  generalize e1 : k1 + (sumS cntPut c_pend : Int) = k2 at hr ⊢
  have q1 := isAdd e1
  have p1 : 0 ≤ k2 := q1.ge hB1.1
  clear e1
  have pp : icmp .lss k2 0 = false := ge_lss p1
  try rw [hm1]
  cbv; simp only [F]
  simp only [pp]
  clear pp
  cbv; simp only [F]
  exact LeV.ti hr rfl
theorem ret_heldEventS (l : List (EventD)) (k : Int) (h1 : MkB k (sumS cntEvent l)) (hl : szL sizeEvent l ≤ 68719476736) : Ret pg 32 true [.sl .shr 3 (rows eventR (mkL cntEvent mkEvent k l)), .i .i64 k] [] (.i .i64 (k + (sumS cntEvent l : Nat))) := by
  have hll : l.length ≤ 68719476736 := Nat.le_trans (szL_len _ _) hl
  generalize hr : V.i .i64 (k + (sumS cntEvent l : Nat)) = r
  have hxa : ∀ (i : Nat) (y : EventD), l[i]? = some y → (mkL cntEvent mkEvent k l)[i]? = some (mkEvent (k + (sumS cntEvent (l.take i) : Nat)) y) := fun i y h => mkL_at cntEvent mkEvent h k
  have hxl : (mkL cntEvent mkEvent k l).length = l.length := mkL_len _ _ _ _
  generalize mkL cntEvent mkEvent k l = x at hxa hxl ⊢
  refine ret0 Try.func32 rfl (by decide +kernel) rfl (hr ▸ trivial) ?_
  cbv; simp only [F]
  refine LoopK.intro (α := Nat × Int) [0, 1, 5] [] (fun a => [(1, .i .i64 a.2), (5, .i .i64 a.1)]) (fun _ => []) (fun n a => n = l.length - a.1 ∧ HeI cntEvent l k a.1 a.2) ⟨_, (0, k), ⟨rfl, HeI.zero⟩, rfl⟩ fun n a ha => ?_
  obtain ⟨i, ki⟩ := a
  obtain ⟨rfl, hI⟩ := ha
  dsimp only at hI ⊢
  cbv; simp only [F]
  split <;> (rename_i h; simp only [h]; cbv; simp only [F])
  · obtain ⟨y, hyl⟩ := get_lt (l := l) (i := i) (hxl ▸ lt_llen h)
    clear h
    have hB := hI.ok hyl h1
    have hy := hxa i y hyl
    rw [← hI.1] at hy
    refine ⟨inr_rowsN hy, _, at_rowsN hy, ?_⟩
    obtain ⟨f_kind, f_pos, f_data⟩ := y
    have hsz : f_data.length ≤ szL sizeEvent l := szL_at sizeEvent hyl
    generalize hg : mkEvent ki ⟨f_kind, f_pos, f_data⟩ = g at hy ⊢
    obtain ⟨g_kind, g_pos, g_data⟩ := g
    simp only [mkEvent, EventD.mk.injEq] at hg
    obtain ⟨hg0, hg1, hg2⟩ := hg
    cbv; simp only [F]
    have hgg : g_kind = ki := hg0.symm
    simp only [hgg, neq_self]
    cbv; simp only [F]
    generalize e0 : iop .add .i64 ki 1 = k1
    obtain ⟨q0, hB1⟩ := hB.inc e0 _ (Nat.le_refl _)
    clear e0
    rw [← q0] at hg1 hg2
    refine ⟨inr_rowsN hy, _, at_rowsN hy, ?_⟩
    cbv; simp only [F]
    have hgg : g_pos = k1 := hg1.symm
    simp only [hgg, neq_self]
    cbv; simp only [F]
    generalize e1 : iop .add .i64 k1 1 = k2
    obtain ⟨q1, hB2⟩ := hB1.inc e1 _ (Nat.le_refl _)
    clear e1
    rw [← q1] at hg2
    refine ⟨inr_rowsN hy, _, at_rowsN hy, ?_⟩
    cbv; simp only [F]
    refine CallK.intro (ret_markText k2 hB2.1 (by have := hB2.2; omega)) ?_
    have hgg : textF k2 = g_data := by rw [← hg2]
    rw [hgg]
    clear hgg
    cbv; simp only [F]
    simp only [neqs_self]
    cbv; simp only [F]
    generalize e2 : iop .add .i64 k2 1 = k3
    have q2 := inc_one e2 hB2.1 (by have := hB2.2; omega)
    clear e2
    rw [add_one (get_lt_len hyl) (by omega)]
    refine ⟨_, (i + 1, k3), ⟨Nat.sub_succ_lt_self _ _ (get_lt_len hyl), rfl, ?_⟩, rfl⟩
    refine hI.step hyl ?_
    try dsimp only
    show _ = ki + ((1 + (1 + (1)) : Nat) : Int)
    omega
  · exact LeV.ti hr (hI.done (hxl ▸ ge_llen h))
end Go.Ar
