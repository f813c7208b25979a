import Derived.Test.YtogidplgdeghgaaGreatArGt0
namespace Go.Ar
open Go.Proofs
set_option linter.unusedVariables false
set_option linter.unusedSimpArgs false
set_option maxRecDepth 20000
theorem ret_szStringS (l : List (List UInt8)) (left : Int) (hl : l.length ≤ maxLen) (hw : ∀ y ∈ l, y.length ≤ maxLen) (h0 : 0 ≤ left) (h1 : left ≤ 1048576) : Ret pg 53 true [.sl .shr 1 (rows strR l), .i .i64 left] [] (.i .i64 (lessS left (szL List.length l))) := by
 generalize hr : V.i .i64 (lessS left (szL List.length l)) = r
 refine ret0 Tryz.func53 rfl (by decide +kernel) rfl (hr ▸ trivial) ?_
 cbv; simp only [F]
 generalize e1 : iop .sub .i64 left (llen (rows strR l)) = l1
 have q1 : IsSub left l.length l1 := sub_llen e1 h0 h1 hl
 clear e1
 split <;> (rename_i h; simp only [h]; cbv; simp only [F])
 ·exact LeV.ti hr (szL_neg (q1.eqn) (lt_zero h))
 have g0 := ge_zero h
 clear h
 refine LoopK.intro (α := Nat × Int) [0, 1, 5] [] (fun a => [(1, .i .i64 a.2), (5, .i .i64 a.1)]) (fun _ => []) (fun n a => n = l.length - a.1 ∧ SzI List.length l left a.1 a.2) ⟨_, (0, l1), ⟨rfl, SzI.zero q1.eqn g0 h1⟩, rfl⟩ fun n a ha => ?_
 obtain ⟨i, lf⟩ := a
 obtain ⟨rfl, ha⟩ := ha
 dsimp only at ha ⊢
 cbv; simp only [F]
 split <;> (rename_i h; simp only [h]; cbv; simp only [F])
 ·obtain ⟨y, hy⟩ := get_lt (lt_llen h)
  clear h
  refine ⟨inr_rowsN hy, _, at_rowsN hy, ?_⟩
  cbv; simp only [F]
  generalize e2 : iop .sub .i64 lf (slen y) = l2
  have q2 : IsSub lf y.length l2 := sub_slen e2 ha.2.1 ha.le (hw y (List.mem_of_getElem? hy))
  clear e2
  split <;> (rename_i h; simp only [h]; cbv; simp only [F])
  ·exact LeV.ti hr (ha.neg hy (q2.less ha.2.1 (lt_zero h)) lessS_neg1)
  ·have g := ge_zero h
   rw [add_one (get_lt_len hy) (by have := ha.len; omega)]
   exact ⟨_, (i + 1, l2), ⟨Nat.sub_succ_lt_self _ _ (get_lt_len hy), rfl, ha.step hy (q2.pos g).lessE g⟩, rfl⟩
 ·exact LeV.ti hr (ha.done (ge_llen h))
theorem ret_szPut (x : PutD) (left : Int) (hw : wfPut x) (h0 : 0 ≤ left) (h1 : left ≤ 1048576) : Ret pg 121 true [.ag (putC x), .i .i64 left] [] (.i .i64 (lessS left (sizePut x))) := by
 generalize hr : V.i .i64 (lessS left (sizePut x)) = r
 refine ret0 Tryz.func121 rfl (by decide +kernel) rfl (hr ▸ trivial) ?_
 cbv; simp only [F]
 generalize e0 : iop .sub .i64 left (slen x.data) = l0
 have u0 : IsSub left (x.data.length) l0 := sub_slen e0 h0 h1 hw
 clear e0
 split <;> (rename_i h; simp only [h]; cbv; simp only [F])
 ·have hn := u0.neg (lt_zero h) h0
  exact LeV.ti hr (by rw [lessS_lt]; unfold sizePut; omega)
 have g0 := ge_zero h
 clear h
 have m0 := u0.pos g0
 have k0 : l0 ≤ 1048576 := m0.le h1
 clear u0
 exact LeV.ti hr (by rw [lessS_eq] <;> unfold sizePut <;> (have := m0.eq; omega))
theorem ret_szPutS (l : List (PutD)) (left : Int) (hl : l.length ≤ maxLen) (hw : ∀ y ∈ l, wfPut y) (h0 : 0 ≤ left) (h1 : left ≤ 1048576) : Ret pg 54 true [.sl .shr 2 (rows putR l), .i .i64 left] [] (.i .i64 (lessS left (szL sizePut l))) := by
 generalize hr : V.i .i64 (lessS left (szL sizePut l)) = r
 refine ret0 Tryz.func54 rfl (by decide +kernel) rfl (hr ▸ trivial) ?_
 cbv; simp only [F]
 generalize e1 : iop .sub .i64 left (llen (rows putR l)) = l1
 have q1 : IsSub left l.length l1 := sub_llen e1 h0 h1 hl
 clear e1
 split <;> (rename_i h; simp only [h]; cbv; simp only [F])
 ·exact LeV.ti hr (szL_neg (q1.eqn) (lt_zero h))
 have g0 := ge_zero h
 clear h
 refine LoopK.intro (α := Nat × Int) [0, 1, 5] [] (fun a => [(1, .i .i64 a.2), (5, .i .i64 a.1)]) (fun _ => []) (fun n a => n = l.length - a.1 ∧ SzI sizePut l left a.1 a.2) ⟨_, (0, l1), ⟨rfl, SzI.zero q1.eqn g0 h1⟩, rfl⟩ fun n a ha => ?_
 obtain ⟨i, lf⟩ := a
 obtain ⟨rfl, ha⟩ := ha
 dsimp only at ha ⊢
 cbv; simp only [F]
 split <;> (rename_i h; simp only [h]; cbv; simp only [F])
 ·obtain ⟨y, hy⟩ := get_lt (lt_llen h)
  clear h
  refine ⟨inr_rowsN hy, _, at_rowsN hy, ?_⟩
  cbv; simp only [F]
  refine CallK.intro (ret_szPut y lf (hw y (List.mem_of_getElem? hy)) ha.2.1 ha.le) ?_
  generalize e2 : lessS lf (sizePut y) = l2
  have q2 : IsLess lf (sizePut y) l2 := e2
  clear e2
  cbv; simp only [F]
  split <;> (rename_i h; simp only [h]; cbv; simp only [F])
  ·exact LeV.ti hr (ha.neg hy q2 (lt_zero h))
  ·have g := ge_zero h
   rw [add_one (get_lt_len hy) (by have := ha.len; omega)]
   exact ⟨_, (i + 1, l2), ⟨Nat.sub_succ_lt_self _ _ (get_lt_len hy), rfl, ha.step hy q2 g⟩, rfl⟩
 ·exact LeV.ti hr (ha.done (ge_llen h))
theorem ret_szDisk (x : DiskD) (left : Int) (hw : wfDisk x) (h0 : 0 ≤ left) (h1 : left ≤ 1048576) : Ret pg 15 true [.ag (diskC x), .i .i64 left] [] (.i .i64 (lessS left (sizeDisk x))) := by
 generalize hr : V.i .i64 (lessS left (sizeDisk x)) = r
 refine ret0 Tryz.func15 rfl (by decide +kernel) rfl (hr ▸ trivial) ?_
 cbv; simp only [F]
 refine CallK.intro (ret_szStringS x.sectors left hw.1.1 hw.1.2 h0 h1) ?_
 generalize e0 : lessS left (szL List.length x.sectors) = l0
 have u0 : IsLess left (szL List.length x.sectors) l0 := e0
 clear e0
 cbv; simp only [F]
 split <;> (rename_i h; simp only [h]; cbv; simp only [F])
 ·have hn := u0.neg (lt_zero h) h0
  exact LeV.ti hr (by rw [lessS_lt]; unfold sizeDisk; omega)
 have g0 := ge_zero h
 clear h
 have m0 := u0.pos g0
 have k0 : l0 ≤ 1048576 := m0.le h1
 clear u0
 refine CallK.intro (ret_szPutS x.pend l0 hw.2.1 hw.2.2 g0 k0) ?_
 generalize e1 : lessS l0 (szL sizePut x.pend) = l1
 have u1 : IsLess l0 (szL sizePut x.pend) l1 := e1
 clear e1
 cbv; simp only [F]
 split <;> (rename_i h; simp only [h]; cbv; simp only [F])
 ·have hn := u1.neg (lt_zero h) g0
  exact LeV.ti hr (by rw [lessS_lt]; unfold sizeDisk; have := m0.eq; omega)
 have g1 := ge_zero h
 clear h
 have m1 := u1.pos g1
 have k1 : l1 ≤ 1048576 := m1.le k0
 clear u1
 exact LeV.ti hr (by rw [lessS_eq] <;> unfold sizeDisk <;> (have := m0.eq; have := m1.eq; omega))
end Go.Ar
