import Derived.Test.YtogidplgdeghgaaGreatArGt0
namespace Go.Ar
open Go.Proofs
set_option linter.unusedVariables false
set_option linter.unusedSimpArgs false
set_option maxRecDepth 20000
theorem ret_markIntS (hv : Value) (l : List (Int)) (k : Int) (h1 : MkB k (sumS cntInt l)) (hl : szL szInt l ≤ 68719476736) : RetM pg 150 [hv] [.rf ⟨.gl 0, [], 0⟩ 1 none, .i .i64 k] [.sl .own 1 (rows intR l)] (.i .i64 (k + (sumS cntInt l : Nat))) [.sl .own 1 (rows intR (mkL cntInt mkInt k l))] := by
 have hll : l.length ≤ 68719476736 := Nat.le_trans (szL_len _ _) hl
 generalize hr : V.i .i64 (k + (sumS cntInt l : Nat)) = r
 generalize ho : [V.sl .own 1 (rows intR (mkL cntInt mkInt k l))] = o
 refine ret0M Tryz.func150 rfl (by decide +kernel) rfl (hr ▸ rfl) ⟨⟨rfl, own_intS _⟩, trivial⟩ rfl (ho ▸ ⟨⟨rfl, own_intS _⟩, trivial⟩) (ho ▸ rfl) (ho ▸ rfl) ?_
 cbv; simp only [F]
 refine LoopK.introG (α := Nat × Int × List (Int)) [0, 1, 5] [] (fun a => [(1, .i .i64 a.2.1), (5, .i .i64 a.1)]) (fun _ => []) (fun a => [[.sl .own 1 (rows intR a.2.2)]]) (fun n a => n = l.length - a.1 ∧ MkI cntInt mkInt l k a.1 a.2.1 a.2.2) ⟨_, (0, k, l), ⟨rfl, MkI.zero⟩, rfl⟩ fun n a ha => ?_
 obtain ⟨i, ki, x⟩ := a
 obtain ⟨rfl, hI⟩ := ha
 dsimp only at hI ⊢
 cbv; simp only [F]
 split <;> (rename_i h; simp only [h]; cbv; simp only [F])
 ·obtain ⟨y, hy, hyl⟩ := hI.get (lt_llen h)
  clear h
  have hB := hI.ok hyl h1
  refine ⟨inr_rowsN hy, _, at_rowsN hy, ?_⟩
  cbv; simp only [F, set_setN]
  generalize e0 : iop .add .i64 ki 1 = k1
  have q0 := inc_one e0 hB.1 (by have := hB.2; omega)
  clear e0
  rw [show [V.i IntKind.i64 ki] = intR ki from rfl, set_rowsN, add_one (get_lt_len hyl) (by omega)]
  refine ⟨_, (i + 1, k1, x.set i ki), ⟨Nat.sub_succ_lt_self _ _ (get_lt_len hyl), rfl, ?_⟩, rfl⟩
  subst q0
  refine hI.step hyl ?_
  try dsimp only
  show _ = ki + ((1 : Nat) : Int)
  omega
 ·obtain ⟨q1, q2⟩ := hI.done (hI.len ▸ ge_llen h)
  exact ⟨LeV.ti hr q1, by rw [← ho, q2]; rfl⟩
theorem ret_markStringS (hv : Value) (l : List (List UInt8)) (k : Int) (h1 : MkB k (sumS cntStr l)) (hl : szL List.length l ≤ 68719476736) : RetM pg 70 [hv] [.rf ⟨.gl 0, [], 0⟩ 1 none, .i .i64 k] [.sl .own 1 (rows strR l)] (.i .i64 (k + (sumS cntStr l : Nat))) [.sl .own 1 (rows strR (mkL cntStr mkStr k l))] := by
 have hll : l.length ≤ 68719476736 := Nat.le_trans (szL_len _ _) hl
 generalize hr : V.i .i64 (k + (sumS cntStr l : Nat)) = r
 generalize ho : [V.sl .own 1 (rows strR (mkL cntStr mkStr k l))] = o
 refine ret0M Tryz.func70 rfl (by decide +kernel) rfl (hr ▸ rfl) ⟨⟨rfl, own_stringS _⟩, trivial⟩ rfl (ho ▸ ⟨⟨rfl, own_stringS _⟩, trivial⟩) (ho ▸ rfl) (ho ▸ rfl) ?_
 cbv; simp only [F]
 refine LoopK.introG (α := Nat × Int × List (List UInt8)) [0, 1, 5] [] (fun a => [(1, .i .i64 a.2.1), (5, .i .i64 a.1)]) (fun _ => []) (fun a => [[.sl .own 1 (rows strR a.2.2)]]) (fun n a => n = l.length - a.1 ∧ MkI cntStr mkStr l k a.1 a.2.1 a.2.2) ⟨_, (0, k, l), ⟨rfl, MkI.zero⟩, rfl⟩ fun n a ha => ?_
 obtain ⟨i, ki, x⟩ := a
 obtain ⟨rfl, hI⟩ := ha
 dsimp only at hI ⊢
 cbv; simp only [F]
 split <;> (rename_i h; simp only [h]; cbv; simp only [F])
 ·obtain ⟨y, hy, hyl⟩ := hI.get (lt_llen h)
  clear h
  have hB := hI.ok hyl h1
  refine CallK.intro (ret_markText ki hB.1 (by have := hB.2; omega)) ?_
  generalize ht0 : textF ki = t0
  cbv; simp only [F, set_setN]
  refine ⟨inr_rowsN hy, _, at_rowsN hy, ?_⟩
  cbv; simp only [F, set_setN]
  generalize e0 : iop .add .i64 ki 1 = k1
  have q0 := inc_one e0 hB.1 (by have := hB.2; omega)
  clear e0
  rw [show [V.s t0] = strR t0 from rfl, set_rowsN, add_one (get_lt_len hyl) (by omega)]
  refine ⟨_, (i + 1, k1, x.set i t0), ⟨Nat.sub_succ_lt_self _ _ (get_lt_len hyl), rfl, ?_⟩, rfl⟩
  subst q0
  subst ht0
  refine hI.step hyl ?_
  try dsimp only
  show _ = ki + ((1 : Nat) : Int)
  omega
 ·obtain ⟨q1, q2⟩ := hI.done (hI.len ▸ ge_llen h)
  exact ⟨LeV.ti hr q1, by rw [← ho, q2]; rfl⟩
theorem ret_markNodeS (hv : Value) (l : List (NodeD)) (k : Int) (h1 : MkB k (sumS cntNode l)) (hl : szL sizeNode l ≤ 68719476736) : RetM pg 72 [hv] [.rf ⟨.gl 0, [], 0⟩ 5 none, .i .i64 k] [.sl .own 5 (rows nodeR l)] (.i .i64 (k + (sumS cntNode l : Nat))) [.sl .own 5 (rows nodeR (mkL cntNode mkNode k l))] := by
 have hll : l.length ≤ 68719476736 := Nat.le_trans (szL_len _ _) hl
 generalize hr : V.i .i64 (k + (sumS cntNode l : Nat)) = r
 generalize ho : [V.sl .own 5 (rows nodeR (mkL cntNode mkNode k l))] = o
 refine ret0M Tryz.func72 rfl (by decide +kernel) rfl (hr ▸ rfl) ⟨⟨rfl, own_nodeS _⟩, trivial⟩ rfl (ho ▸ ⟨⟨rfl, own_nodeS _⟩, trivial⟩) (ho ▸ rfl) (ho ▸ rfl) ?_
 cbv; simp only [F]
 refine LoopK.introG (α := Nat × Int × List (NodeD)) [0, 1, 5] [] (fun a => [(1, .i .i64 a.2.1), (5, .i .i64 a.1)]) (fun _ => []) (fun a => [[.sl .own 5 (rows nodeR a.2.2)]]) (fun n a => n = l.length - a.1 ∧ MkI cntNode mkNode l k a.1 a.2.1 a.2.2) ⟨_, (0, k, l), ⟨rfl, MkI.zero⟩, rfl⟩ fun n a ha => ?_
 obtain ⟨i, ki, x⟩ := a
 obtain ⟨rfl, hI⟩ := ha
 dsimp only at hI ⊢
 cbv; simp only [F]
 split <;> (rename_i h; simp only [h]; cbv; simp only [F])
 ·obtain ⟨y, hy, hyl⟩ := hI.get (lt_llen h)
  clear h
  have hB := hI.ok hyl h1
  obtain ⟨f_kind, f_gen, f_time, f_size, f_blocks⟩ := y
  have hsz : szL szInt f_blocks ≤ szL sizeNode l := szL_at sizeNode hyl
  refine ⟨inr_rowsN hy, _, at_rowsN hy, ?_⟩
  cbv; simp only [F, set_setN]
  generalize e0 : iop .add .i64 ki 1 = k1
  obtain ⟨q0, hB1⟩ := hB.inc e0 _ (Nat.le_refl _)
  clear e0
  refine ⟨inr_setN hy _, _, at_setN hy _, ?_⟩
  cbv; simp only [F, set_setN]
  generalize e1 : iop .add .i64 k1 1 = k2
  obtain ⟨q1, hB2⟩ := hB1.inc e1 _ (Nat.le_refl _)
  clear e1
  refine ⟨inr_setN hy _, _, at_setN hy _, ?_⟩
  cbv; simp only [F, set_setN]
  generalize e2 : iop .add .i64 k2 1 = k3
  obtain ⟨q2, hB3⟩ := hB2.inc e2 _ (Nat.le_refl _)
  clear e2
  refine ⟨inr_setN hy _, _, at_setN hy _, ?_⟩
  cbv; simp only [F, set_setN]
  generalize e3 : iop .add .i64 k3 1 = k4
  obtain ⟨q3, hB4⟩ := hB3.inc e3 _ (Nat.le_refl _)
  clear e3
  refine ⟨inr_setN hy _, _, at_setN hy _, ?_⟩
  cbv; simp only [F, set_setN]
  refine ⟨_, at_setN hy _, ?_⟩
  cbv; simp only [F, set_setN]
  intro hv4
  cbv; simp only [F, set_setN]
  refine CallMK.intro (ret_markIntS hv4 f_blocks k4 (hB4.sub _ (Nat.le_refl _)) (by omega)) ?_
  generalize e4 : k4 + (sumS cntInt f_blocks : Int) = k5
  have q4 := isAdd e4
  clear e4
  generalize hm4 : mkL cntInt mkInt k4 f_blocks = m4
  cbv; simp only [F, set_setN]
  refine ⟨_, at_setN hy _, ?_⟩
  cbv; simp only [F, set_setN]
  rw [show [V.i IntKind.i64 ki, V.i IntKind.i64 k1, V.i IntKind.i64 k2, V.i IntKind.i64 k3, V.sl .own 1 (rows intR m4)] = nodeR ⟨ki, k1, k2, k3, m4⟩ from rfl, set_rowsN, add_one (get_lt_len hyl) (by omega)]
  refine ⟨_, (i + 1, k5, x.set i ⟨ki, k1, k2, k3, m4⟩), ⟨Nat.sub_succ_lt_self _ _ (get_lt_len hyl), rfl, ?_⟩, rfl⟩
  unfold IsAdd at q4
  subst q4
  subst hm4
  subst q3
  subst q2
  subst q1
  subst q0
  refine hI.step hyl ?_
  try dsimp only
  show _ = ki + ((1 + (1 + (1 + (1 + (sumS cntInt f_blocks)))) : Nat) : Int)
  omega
 ·obtain ⟨q1, q2⟩ := hI.done (hI.len ▸ ge_llen h)
  exact ⟨LeV.ti hr q1, by rw [← ho, q2]; rfl⟩
theorem ret_markFs (hv0 hv1 : Value) (c_nodes : List NodeD) (c_data : List (List UInt8)) (k : Int) (h1 : MkB k (sumS cntNode c_nodes + (sumS cntStr c_data))) (hz0 : szL sizeNode c_nodes ≤ 68719476736) (hz1 : szL List.length c_data ≤ 68719476736) : RetM pg 22 [hv0, hv1] [.ag [.cv (0, 5) hv0, .cv (1, 1) hv1], .i .i64 k] [.sl .own 5 (rows nodeR c_nodes), .sl .own 1 (rows strR c_data)] (.i .i64 (k + (sumS cntNode c_nodes : Nat) + (sumS cntStr c_data : Nat))) [.sl .own 5 (rows nodeR (mkL cntNode mkNode (k) c_nodes)), .sl .own 1 (rows strR (mkL cntStr mkStr (k + (sumS cntNode c_nodes : Nat)) c_data))] := by
 generalize hr : V.i .i64 (k + (sumS cntNode c_nodes : Nat) + (sumS cntStr c_data : Nat)) = r
 generalize ho : [V.sl .own 5 (rows nodeR (mkL cntNode mkNode (k) c_nodes)), V.sl .own 1 (rows strR (mkL cntStr mkStr (k + (sumS cntNode c_nodes : Nat)) c_data))] = o
 refine ret0M Tryz.func22 rfl (by decide +kernel) rfl (hr ▸ rfl) ⟨⟨rfl, own_nodeS _⟩, ⟨rfl, own_stringS _⟩, trivial⟩ rfl (ho ▸ ⟨⟨rfl, own_nodeS _⟩, ⟨rfl, own_stringS _⟩, trivial⟩) (ho ▸ rfl) (ho ▸ rfl) ?_
 cbv; simp only [F]
 refine CallMK.intro (ret_markNodeS hv0 c_nodes k (h1.sub _ (Nat.le_add_right _ _)) hz0) ?_
 generalize e0 : k + (sumS cntNode c_nodes : Int) = k1
 generalize hm0 : mkL cntNode mkNode k c_nodes = m0
 have q0 := isAdd e0
 have hB1 := h1.addI q0 (Nat.le_refl _)
 clear e0
 cbv; simp only [F]
 refine CallMK.intro (ret_markStringS hv1 c_data k1 (hB1.sub _ (Nat.le_refl _)) hz1) ?_
 generalize e1 : k1 + (sumS cntStr c_data : Int) = k2
 generalize hm1 : mkL cntStr mkStr k1 c_data = m1
 have q1 := isAdd e1
 clear e1
 cbv; simp only [F]
 subst hm1
 unfold IsAdd at q1
 subst q1
 subst hm0
 unfold IsAdd at q0
 subst q0
 exact ⟨LeV.ti hr rfl, by rw [← ho]; rfl⟩
theorem ret_markPutS (hv : Value) (l : List (PutD)) (k : Int) (h1 : MkB k (sumS cntPut l)) (hl : szL sizePut l ≤ 68719476736) : RetM pg 71 [hv] [.rf ⟨.gl 0, [], 0⟩ 2 none, .i .i64 k] [.sl .own 2 (rows putR l)] (.i .i64 (k + (sumS cntPut l : Nat))) [.sl .own 2 (rows putR (mkL cntPut mkPut k l))] := by
 have hll : l.length ≤ 68719476736 := Nat.le_trans (szL_len _ _) hl
 generalize hr : V.i .i64 (k + (sumS cntPut l : Nat)) = r
 generalize ho : [V.sl .own 2 (rows putR (mkL cntPut mkPut k l))] = o
 refine ret0M Tryz.func71 rfl (by decide +kernel) rfl (hr ▸ rfl) ⟨⟨rfl, own_putS _⟩, trivial⟩ rfl (ho ▸ ⟨⟨rfl, own_putS _⟩, trivial⟩) (ho ▸ rfl) (ho ▸ rfl) ?_
 cbv; simp only [F]
 refine LoopK.introG (α := Nat × Int × List (PutD)) [0, 1, 5] [] (fun a => [(1, .i .i64 a.2.1), (5, .i .i64 a.1)]) (fun _ => []) (fun a => [[.sl .own 2 (rows putR a.2.2)]]) (fun n a => n = l.length - a.1 ∧ MkI cntPut mkPut l k a.1 a.2.1 a.2.2) ⟨_, (0, k, l), ⟨rfl, MkI.zero⟩, rfl⟩ fun n a ha => ?_
 obtain ⟨i, ki, x⟩ := a
 obtain ⟨rfl, hI⟩ := ha
 dsimp only at hI ⊢
 cbv; simp only [F]
 split <;> (rename_i h; simp only [h]; cbv; simp only [F])
 ·obtain ⟨y, hy, hyl⟩ := hI.get (lt_llen h)
  clear h
  have hB := hI.ok hyl h1
  obtain ⟨f_pos, f_data⟩ := y
  have hsz : f_data.length ≤ szL sizePut l := szL_at sizePut hyl
  refine ⟨inr_rowsN hy, _, at_rowsN hy, ?_⟩
  cbv; simp only [F, set_setN]
  generalize e0 : iop .add .i64 ki 1 = k1
  obtain ⟨q0, hB1⟩ := hB.inc e0 _ (Nat.le_refl _)
  clear e0
  refine CallK.intro (ret_markText k1 hB1.1 (by have := hB1.2; omega)) ?_
  generalize ht1 : textF k1 = t1
  cbv; simp only [F, set_setN]
  refine ⟨inr_setN hy _, _, at_setN hy _, ?_⟩
  cbv; simp only [F, set_setN]
  generalize e1 : iop .add .i64 k1 1 = k2
  have q1 := inc_one e1 hB1.1 (by have := hB1.2; omega)
  clear e1
  rw [show [V.i IntKind.i64 ki, V.s t1] = putR ⟨ki, t1⟩ from rfl, set_rowsN, add_one (get_lt_len hyl) (by omega)]
  refine ⟨_, (i + 1, k2, x.set i ⟨ki, t1⟩), ⟨Nat.sub_succ_lt_self _ _ (get_lt_len hyl), rfl, ?_⟩, rfl⟩
  subst q1
  subst ht1
  subst q0
  refine hI.step hyl ?_
  try dsimp only
  show _ = ki + ((1 + (1) : Nat) : Int)
  omega
 ·obtain ⟨q1, q2⟩ := hI.done (hI.len ▸ ge_llen h)
  exact ⟨LeV.ti hr q1, by rw [← ho, q2]; rfl⟩
theorem ret_markDisk (hv0 hv1 : Value) (c_sectors : List (List UInt8)) (c_pend : List PutD) (k : Int) (h1 : MkB k (sumS cntStr c_sectors + (sumS cntPut c_pend))) (hz0 : szL List.length c_sectors ≤ 68719476736) (hz1 : szL sizePut c_pend ≤ 68719476736) : RetM pg 21 [hv0, hv1] [.ag [.cv (0, 1) hv0, .cv (1, 2) hv1], .i .i64 k] [.sl .own 1 (rows strR c_sectors), .sl .own 2 (rows putR c_pend)] (.i .i64 (k + (sumS cntStr c_sectors : Nat) + (sumS cntPut c_pend : Nat))) [.sl .own 1 (rows strR (mkL cntStr mkStr (k) c_sectors)), .sl .own 2 (rows putR (mkL cntPut mkPut (k + (sumS cntStr c_sectors : Nat)) c_pend))] := by
 generalize hr : V.i .i64 (k + (sumS cntStr c_sectors : Nat) + (sumS cntPut c_pend : Nat)) = r
 generalize ho : [V.sl .own 1 (rows strR (mkL cntStr mkStr (k) c_sectors)), V.sl .own 2 (rows putR (mkL cntPut mkPut (k + (sumS cntStr c_sectors : Nat)) c_pend))] = o
 refine ret0M Tryz.func21 rfl (by decide +kernel) rfl (hr ▸ rfl) ⟨⟨rfl, own_stringS _⟩, ⟨rfl, own_putS _⟩, trivial⟩ rfl (ho ▸ ⟨⟨rfl, own_stringS _⟩, ⟨rfl, own_putS _⟩, trivial⟩) (ho ▸ rfl) (ho ▸ rfl) ?_
 cbv; simp only [F]
 refine CallMK.intro (ret_markStringS hv0 c_sectors k (h1.sub _ (Nat.le_add_right _ _)) hz0) ?_
 generalize e0 : k + (sumS cntStr c_sectors : Int) = k1
 generalize hm0 : mkL cntStr mkStr k c_sectors = m0
 have q0 := isAdd e0
 have hB1 := h1.addI q0 (Nat.le_refl _)
 clear e0
 cbv; simp only [F]
 refine CallMK.intro (ret_markPutS hv1 c_pend k1 (hB1.sub _ (Nat.le_refl _)) hz1) ?_
 generalize e1 : k1 + (sumS cntPut c_pend : Int) = k2
 generalize hm1 : mkL cntPut mkPut k1 c_pend = m1
 have q1 := isAdd e1
 clear e1
 cbv; simp only [F]
 subst hm1
 unfold IsAdd at q1
 subst q1
 subst hm0
 unfold IsAdd at q0
 subst q0
 exact ⟨LeV.ti hr rfl, by rw [← ho]; rfl⟩
end Go.Ar
