import Derived.Test.YtjfhbbjcpbfncaaArKa
import Derived.Test.YtjfhbbjcpbfncaaArLa
import Derived.Test.YtjfhbbjcpbfncaaArGt
namespace Go.Ar
open Go.Proofs
set_option linter.unusedVariables false
set_option linter.unusedSimpArgs false
set_option maxRecDepth 20000

theorem MkB.of {k : Int} {n s : Nat} (h : n ≤ 8 * s) (h0 : 0 ≤ k) (h1 : k + 8 * s ≤ 1099511627776) : MkB k n := ⟨h0, by omega⟩
theorem szL_le (l : List (List UInt8)) (n : Nat) (h : ∀ s ∈ l, s.length ≤ n) : szL List.length l ≤ (n + 1) * l.length := by
  induction l with
  | nil => simp [szL, sumS]
  | cons x l ih =>
    have h1 := h x (by simp)
    have h2 := ih fun y hy => h y (by simp [hy])
    simp only [szL, sumS, List.map_cons, List.sum_cons, List.length_cons, Nat.mul_add] at h2 ⊢
    omega
theorem fsBlocks_short {f : FsD} (hs : ShapeOk f) : ∀ s ∈ fsBlocks f, s.length ≤ 41 := by
  have k1 := putNum_len (f.nodes.length : Int)
  have k2 := putNum_len (f.data.length : Int)
  have hd := hs.d1
  intro s h
  unfold fsBlocks at h
  simp only [List.mem_append, List.mem_cons, List.mem_map, List.not_mem_nil, or_false] at h
  rcases h with ((rfl | rfl) | ⟨n, _, rfl⟩) | h
  · simp; omega
  · rw [bitsN_len]; omega
  · exact nodeText_len n
  · obtain ⟨k, hk⟩ := List.mem_iff_getElem?.1 h
    have := (hs.data k s hk).1; omega
theorem diskFor_size (f : FsD) : sizeDisk (diskFor f).1 ≤ 10000 := by
  unfold diskFor
  split
  · rename_i hs
    have hd := hs.d1
    have hn := hs.n1
    have hl := fsBlocks_len f
    have := szL_le (List.replicate ((fsBlocks f).length + 1) [] ++ fsBlocks f) 41 (fun s h => by
      rcases List.mem_append.1 h with h | h
      · rw [List.eq_of_mem_replicate h]; simp
      · exact fsBlocks_short hs s h)
    simp only [List.length_append, List.length_replicate] at this
    unfold sizeDisk
    simp only [szL, sumS, List.map_nil, List.sum_nil, List.length_nil] at this ⊢
    omega
  · simp [sizeDisk, szL, sumS]
theorem ret_FnExactDiskFor (f : FsD) (hf : wfFs f) : Ret pg 4 true [.ag (fsC f)] [] (.b true) := by
  refine ret_eq fun r hr => ?_
  refine ret0 Try.func4 rfl (by decide +kernel) rfl (hr ▸ trivial) (awF.go 60 [(10, [⟨false, [42, 43], [41]⟩, ⟨false, [41], [42]⟩, ⟨false, [41], [43]⟩, ⟨true, [], [44]⟩, ⟨true, [], [45]⟩])] (by decide +kernel) ?_)
  cbv; simp only [F]
  refine CallK.intro (ret_szFs f 1048576 hf (by omega) (by omega)) ?_
  generalize e1 : lessS 1048576 (sizeFs f) = l1
  have q1 : IsLess 1048576 (sizeFs f) l1 := e1
  clear e1
  cbv; simp only [F]
  split <;> (rename_i h; simp only [h]; cbv; simp only [F])
  · exact LeV.tb hr rfl
  have g1 := ge_zero h
  clear h
  have hs1 : sizeFs f ≤ 1048576 := by have := (q1.pos g1).eq; omega
  clear q1 g1
  have hsw := diskFor_size f
  refine CallK.intro (ret_toFs f (by omega)) ?_
  cbv; simp only [F]
  refine CallK.intro (r_sDiskFor (s_DiskFor f)) ?_
  generalize hw : diskFor f = w at hsw ⊢
  obtain ⟨⟨ws, wp⟩, ok⟩ := w
  dsimp only at hsw
  have hz0 : szL List.length ws ≤ 68719476736 := by unfold sizeDisk at hsw; dsimp only at hsw; omega
  have hz1 : szL sizePut wp ≤ 68719476736 := by unfold sizeDisk at hsw; dsimp only at hsw; omega
  have hB : MkB 1 (sumS cntStr ws + sumS cntPut wp) := MkB.of (s := sizeDisk ⟨ws, wp⟩) (by have := csum_String ws; have := csum_Put wp; unfold sizeDisk; dsimp only; omega) (by omega) (by omega)
  have hzw : sizeDisk ⟨ws, wp⟩ ≤ 68719476736 := by omega
  have hy0 : szL sizeNode f.nodes ≤ 68719476736 := by unfold sizeFs at hs1; omega
  have hy1 : szL List.length f.data ≤ 68719476736 := by unfold sizeFs at hs1; omega
  have hA : MkB 1 (sumS cntNode f.nodes + sumS cntStr f.data) := MkB.of (s := sizeFs f) (by have := csum_Node f.nodes; have := csum_String f.data; unfold sizeFs; omega) (by omega) (by omega)
  cbv; simp only [F]
  refine CallK.intro (ret_toFs f (by omega)) ?_
  cbv; simp only [F]
  refine CallK.intro (r_iDiskFor (i_DiskFor f)) ?_
  rw [hw]
  cbv; simp only [F]
  refine CallK.intro (ret_eqDisk ⟨ws, wp⟩ ⟨ws, wp⟩ hzw) ?_
  rw [decide_eq_true rfl]
  cbv; simp only [F]
  refine CallK.intro (ret_toFs f (by omega)) ?_
  cbv; simp only [F]
  refine CallK.intro (ret_eqFs f f (by omega)) ?_
  rw [decide_eq_true rfl]
  cbv; simp only [F]
  intro hv0
  cbv; simp only [F]
  intro hv1
  cbv; simp only [F]
  refine CallMK.intro (ret_markFs hv0 hv1 f.nodes f.data 1 hA hy0 hy1) ?_
  generalize ek : 1 + (sumS cntNode f.nodes : Int) + (sumS cntStr f.data : Int) = k1
  have hk1 : IsAdd 1 (sumS cntNode f.nodes + sumS cntStr f.data) k1 := isAdd (by rw [← ek]; omega)
  clear ek
  generalize mkL cntNode mkNode 1 f.nodes = m1
  generalize mkL cntStr mkStr (1 + (sumS cntNode f.nodes : Nat)) f.data = m2
  have hk1a : 0 ≤ k1 := hk1.ge (by omega)
  have hk1b := ge_lss hk1a
  cbv; simp only [F]
  simp only [hk1b]
  cbv; simp only [F]
  refine CallK.intro (ret_eqDisk ⟨ws, wp⟩ ⟨ws, wp⟩ hzw) ?_
  rw [decide_eq_true rfl]
  cbv; simp only [F]
  intro hv2
  cbv; simp only [F]
  intro hv3
  cbv; simp only [F]
  refine CallMK.intro (ret_markDisk hv2 hv3 ws wp 1 hB hz0 hz1) ?_
  generalize ek : 1 + (sumS cntStr ws : Int) + (sumS cntPut wp : Int) = k3
  have hk3 : IsAdd 1 (sumS cntStr ws + sumS cntPut wp) k3 := isAdd (by rw [← ek]; omega)
  clear ek
  generalize hm3 : mkL cntStr mkStr 1 ws = m3
  generalize hm4 : mkL cntPut mkPut (1 + (sumS cntStr ws : Nat)) wp = m4
  have hk3a : 0 ≤ k3 := hk3.ge (by omega)
  have hk3b := ge_lss hk3a
  cbv; simp only [F]
  rw [← hm3, ← hm4]
  refine CallK.intro (ret_heldDisk ws wp 1 hB hz0 hz1) ?_
  rw [hm3, hm4, show 1 + (sumS cntStr ws : Int) + (sumS cntPut wp : Int) = k3 from by unfold IsAdd at hk3; omega]
  cbv; simp only [F]
  simp only [hk3b]
  cbv; simp only [F]
  simp only [neq_self]
  cbv; simp only [F]
  refine CallK.intro (ret_toFs f (by omega)) ?_
  cbv; simp only [F]
  refine CallK.intro (r_iDiskFor (i_DiskFor f)) ?_
  rw [hw]
  cbv; simp only [F]
  refine CallK.intro (ret_eqDisk ⟨ws, wp⟩ ⟨ws, wp⟩ hzw) ?_
  rw [decide_eq_true rfl]
  cbv; simp only [F]
  rw [← hm3, ← hm4]
  refine CallK.intro (ret_heldDisk ws wp 1 hB hz0 hz1) ?_
  rw [hm3, hm4, show 1 + (sumS cntStr ws : Int) + (sumS cntPut wp : Int) = k3 from by unfold IsAdd at hk3; omega]
  cbv; simp only [F]
  simp only [hk3b]
  cbv; simp only [F]
  simp only [neq_self]
  cbv; simp only [F]
  exact LeV.tb hr rfl
end Go.Ar
