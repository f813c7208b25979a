import Derived.Test.YtjfhbbjcpbfncaaArKbD
import Derived.Test.YtjfhbbjcpbfncaaArDcN
import Derived.Test.YtjfhbbjcpbfncaaArKa
namespace Go.Ar
open Go.Proofs
set_option linter.unusedVariables false
set_option linter.unusedSimpArgs false
set_option maxRecDepth 20000
set_option maxHeartbeats 40000000
theorem r_iHomesOf {a0 : FsD} {r : Int} (h : iHomesOf a0 = some r) : Ret pg 61 true [.ag (fsC a0)] [] (.i .i64 r) := by
  unfold iHomesOf at h
  refine retD 1000 1000 [] .o Try.func61 rfl (by decide +kernel) (by decide +kernel) rfl trivial ?_
  cbv; try simp only [F, F2, N0, N_Node, N_String]
  obtain ⟨r3, hr3, h⟩ := bnd_out h
  refine CallK.introE rfl rfl (r_iShapeOk hr3) ?_
  clear hr3
  cbv; try simp only [F, F2, N0, N_Node, N_String]
  cases r3
  · simp only [cond_false] at h
    cbv; try simp only [F, F2, N0, N_Node, N_String]
    obtain rfl := Option.some.inj h
    first | exact LeV.to rfl (LeF.rfl' _) | (simp only [rows_nil, bys_n]; exact LeV.to rfl (LeF.rfl' _))
  · simp only [cond_true] at h
    cbv; try simp only [F, F2, N0, N_Node, N_String]
    obtain rfl := Option.some.inj h
    first | exact LeV.to rfl (LeF.rfl' _) | (simp only [rows_nil, bys_n]; exact LeV.to rfl (LeF.rfl' _))
theorem r_iDiff {a0 : FsD} {a1 : FsD} {r : (List PutD)} (h : iDiff a0 a1 = some r) : Ret pg 63 true [.ag (fsC a0), .ag (fsC a1)] [] (.sl .own 2 (rows putR r)) := by
  unfold iDiff at h
  refine retD 8 3 [(1, [⟨false, [12], [10]⟩, ⟨false, [12], [11]⟩, ⟨false, [10, 11], [12]⟩, ⟨true, [], [13]⟩, ⟨true, [], [5]⟩, ⟨true, [], [6]⟩])] (.s .o (.s .o (.s .o (.s .o (.k .o .o))))) Try.func63 rfl (by decide +kernel) (by decide +kernel) rfl ⟨rfl, own_putS _⟩ ?_
  cbv; try simp only [F, F2, N0, N_Node, N_Put, N_String]
  repeat (first | (refine regD.rest 6 ?_; cbv; try simp only [F, F2, N0, N_Node, N_Put, N_String]) | (refine awD.rest ?_; cbv; try simp only [F, F2, N0, N_Node, N_Put, N_String]))
  obtain ⟨r4, hr4, h⟩ := bnd_out h
  rcases r4 with _ | r4
  · rw [oc_n] at h
    refine CallK.introE rfl rfl (r_iFsBlocks hr4) ?_
    clear hr4
    cbv; try simp only [F, F2, N0, N_Node, N_Put, N_String]
    repeat (first | (refine regD.rest 6 ?_; cbv; try simp only [F, F2, N0, N_Node, N_Put, N_String]) | (refine awD.rest ?_; cbv; try simp only [F, F2, N0, N_Node, N_Put, N_String]))
    obtain ⟨r5, hr5, h⟩ := bnd_out h
    rcases r5 with _ | r5
    · rw [oc_n] at h
      refine CallK.introE rfl rfl (r_iFsBlocks hr5) ?_
      clear hr5
      cbv; try simp only [F, F2, N0, N_Node, N_Put, N_String]
      repeat (first | (refine regD.rest 6 ?_; cbv; try simp only [F, F2, N0, N_Node, N_Put, N_String]) | (refine awD.rest ?_; cbv; try simp only [F, F2, N0, N_Node, N_Put, N_String]))
      intro n8 hn8 gn8
      obtain rfl : n8 = true := by first | exact gn8 rfl | exact gn8 trivial | exact gn8
      clear hn8 gn8
      cbv; try simp only [F, F2, N0, N_Node, N_Put, N_String]
      repeat (first | (refine regD.rest 6 ?_; cbv; try simp only [F, F2, N0, N_Node, N_Put, N_String]) | (refine awD.rest ?_; cbv; try simp only [F, F2, N0, N_Node, N_Put, N_String]))
      obtain rfl := Option.some.inj h
      first | exact LeV.to rfl (LeF.nr _ _ _) | (simp only [rows_nil, bys_n]; exact LeV.to rfl (LeF.nr _ _ _))
    · rw [oc_s] at h
      refine CallK.introE rfl rfl (r_iFsBlocks hr5) ?_
      clear hr5
      cbv; try simp only [F, F2, N0, N_Node, N_Put, N_String]
      repeat (first | (refine regD.rest 6 ?_; cbv; try simp only [F, F2, N0, N_Node, N_Put, N_String]) | (refine awD.rest ?_; cbv; try simp only [F, F2, N0, N_Node, N_Put, N_String]))
      intro n9 hn9 gn9
      obtain rfl : n9 = true := by first | exact gn9 rfl | exact gn9 trivial | exact gn9
      clear hn9 gn9
      cbv; try simp only [F, F2, N0, N_Node, N_Put, N_String]
      repeat (first | (refine regD.rest 6 ?_; cbv; try simp only [F, F2, N0, N_Node, N_Put, N_String]) | (refine awD.rest ?_; cbv; try simp only [F, F2, N0, N_Node, N_Put, N_String]))
      obtain rfl := Option.some.inj h
      first | exact LeV.to rfl (LeF.nr _ _ _) | (simp only [rows_nil, bys_n]; exact LeV.to rfl (LeF.nr _ _ _))
  · rw [oc_s] at h
    refine CallK.introE rfl rfl (r_iFsBlocks hr4) ?_
    clear hr4
    cbv; try simp only [F, F2, N0, N_Node, N_Put, N_String]
    repeat (first | (refine regD.rest 6 ?_; cbv; try simp only [F, F2, N0, N_Node, N_Put, N_String]) | (refine awD.rest ?_; cbv; try simp only [F, F2, N0, N_Node, N_Put, N_String]))
    obtain ⟨r10, hr10, h⟩ := bnd_out h
    rcases r10 with _ | r10
    · rw [oc_n] at h
      refine CallK.introE rfl rfl (r_iFsBlocks hr10) ?_
      clear hr10
      cbv; try simp only [F, F2, N0, N_Node, N_Put, N_String]
      repeat (first | (refine regD.rest 6 ?_; cbv; try simp only [F, F2, N0, N_Node, N_Put, N_String]) | (refine awD.rest ?_; cbv; try simp only [F, F2, N0, N_Node, N_Put, N_String]))
      have zn11 := nq_out h; clear h
      intro n11 hn11 gn11
      have h := zn11 n11 (fun e => by have := hn11 e; first | exact this | simpa only [sub, rows_nil_iff, bys_nil_iff] using this); clear zn11
      cbv; try simp only [F, F2, N0, N_Node, N_Put, N_String]
      repeat (first | (refine regD.rest 6 ?_; cbv; try simp only [F, F2, N0, N_Node, N_Put, N_String]) | (refine awD.rest ?_; cbv; try simp only [F, F2, N0, N_Node, N_Put, N_String]))
      cases n11
      · simp only [cond_false] at h
        cbv; try simp only [F, F2, N0, N_Node, N_Put, N_String]
        repeat (first | (refine regD.rest 6 ?_; cbv; try simp only [F, F2, N0, N_Node, N_Put, N_String]) | (refine awD.rest ?_; cbv; try simp only [F, F2, N0, N_Node, N_Put, N_String]))
        intro n12 hn12 gn12
        obtain rfl : n12 = true := by first | exact gn12 rfl | exact gn12 trivial | exact gn12
        clear hn12 gn12
        cbv; try simp only [F, F2, N0, N_Node, N_Put, N_String]
        repeat (first | (refine regD.rest 6 ?_; cbv; try simp only [F, F2, N0, N_Node, N_Put, N_String]) | (refine awD.rest ?_; cbv; try simp only [F, F2, N0, N_Node, N_Put, N_String]))
        obtain rfl := Option.some.inj h
        first | exact LeV.to rfl (LeF.nr _ _ _) | (simp only [rows_nil, bys_n]; exact LeV.to rfl (LeF.nr _ _ _))
      · simp only [cond_true] at h
        cbv; try simp only [F, F2, N0, N_Node, N_Put, N_String]
        repeat (first | (refine regD.rest 6 ?_; cbv; try simp only [F, F2, N0, N_Node, N_Put, N_String]) | (refine awD.rest ?_; cbv; try simp only [F, F2, N0, N_Node, N_Put, N_String]))
        obtain rfl := Option.some.inj h
        first | exact LeV.to rfl (LeF.nr _ _ _) | (simp only [rows_nil, bys_n]; exact LeV.to rfl (LeF.nr _ _ _))
    · rw [oc_s] at h
      refine CallK.introE rfl rfl (r_iFsBlocks hr10) ?_
      clear hr10
      cbv; try simp only [F, F2, N0, N_Node, N_Put, N_String]
      repeat (first | (refine regD.rest 6 ?_; cbv; try simp only [F, F2, N0, N_Node, N_Put, N_String]) | (refine awD.rest ?_; cbv; try simp only [F, F2, N0, N_Node, N_Put, N_String]))
      have zn13 := nq_out h; clear h
      intro n13 hn13 gn13
      have h := zn13 n13 (fun e => by have := hn13 e; first | exact this | simpa only [sub, rows_nil_iff, bys_nil_iff] using this); clear zn13
      cbv; try simp only [F, F2, N0, N_Node, N_Put, N_String]
      repeat (first | (refine regD.rest 6 ?_; cbv; try simp only [F, F2, N0, N_Node, N_Put, N_String]) | (refine awD.rest ?_; cbv; try simp only [F, F2, N0, N_Node, N_Put, N_String]))
      cases n13
      · simp only [cond_false] at h
        cbv; try simp only [F, F2, N0, N_Node, N_Put, N_String]
        repeat (first | (refine regD.rest 6 ?_; cbv; try simp only [F, F2, N0, N_Node, N_Put, N_String]) | (refine awD.rest ?_; cbv; try simp only [F, F2, N0, N_Node, N_Put, N_String]))
        have zn14 := nq_out h; clear h
        intro n14 hn14 gn14
        have h := zn14 n14 (fun e => by have := hn14 e; first | exact this | simpa only [sub, rows_nil_iff, bys_nil_iff] using this); clear zn14
        cbv; try simp only [F, F2, N0, N_Node, N_Put, N_String]
        repeat (first | (refine regD.rest 6 ?_; cbv; try simp only [F, F2, N0, N_Node, N_Put, N_String]) | (refine awD.rest ?_; cbv; try simp only [F, F2, N0, N_Node, N_Put, N_String]))
        cases n14
        · simp only [cond_false] at h
          cbv; try simp only [F, F2, N0, N_Node, N_Put, N_String]
          repeat (first | (refine regD.rest 6 ?_; cbv; try simp only [F, F2, N0, N_Node, N_Put, N_String]) | (refine awD.rest ?_; cbv; try simp only [F, F2, N0, N_Node, N_Put, N_String]))
          split
          · rename_i q38; simp only [q38, cond_true] at h ⊢
            cbv; try simp only [F, F2, N0, N_Node, N_Put, N_String]
            repeat (first | (refine regD.rest 6 ?_; cbv; try simp only [F, F2, N0, N_Node, N_Put, N_String]) | (refine awD.rest ?_; cbv; try simp only [F, F2, N0, N_Node, N_Put, N_String]))
            obtain rfl := Option.some.inj h
            first | exact LeV.to rfl (LeF.nr _ _ _) | (simp only [rows_nil, bys_n]; exact LeV.to rfl (LeF.nr _ _ _))
          · rename_i q38; simp only [q38, cond_false] at h ⊢
            cbv; try simp only [F, F2, N0, N_Node, N_Put, N_String]
            repeat (first | (refine regD.rest 6 ?_; cbv; try simp only [F, F2, N0, N_Node, N_Put, N_String]) | (refine awD.rest ?_; cbv; try simp only [F, F2, N0, N_Node, N_Put, N_String]))
            obtain ⟨o26, ho26, h⟩ := bnd_out h
            refine CutK.intro (α := (List PutD)) [7] [] (fun a => [(7, .sl .own 2 (rows putR a))]) (fun a => []) (fun a => a = o26) ?_ ?_
            · cbv; try simp only [F, F2, N0, N_Node, N_Put, N_String]
              repeat (first | (refine regD.rest 6 ?_; cbv; try simp only [F, F2, N0, N_Node, N_Put, N_String]) | (refine awD.rest ?_; cbv; try simp only [F, F2, N0, N_Node, N_Put, N_String]))
              refine LoopR (σ := (List PutD) × Int) ho26 [5, 6, 7, 28, 29, 30] [] (fun a => [(7, .sl .own 2 (rows putR a.1)), (30, .i .i64 a.2)]) (fun a => []) (by first | rfl | (simp only [rows_nil, bys_n]; rfl)) fun _ s32 xs32 hs32 bs32 es32 => ?_
              obtain ⟨s32_0, s32_1⟩ := s32
              try dsimp only at hs32
              cbv; try simp only [F, F2, N0, N_Node, N_Put, N_String]
              repeat (first | (refine regD.rest 6 ?_; cbv; try simp only [F, F2, N0, N_Node, N_Put, N_String]) | (refine awD.rest ?_; cbv; try simp only [F, F2, N0, N_Node, N_Put, N_String]))
              split
              · rename_i q37; simp only [q37, cond_true] at hs32 ⊢
                cbv; try simp only [F, F2, N0, N_Node, N_Put, N_String]
                repeat (first | (refine regD.rest 6 ?_; cbv; try simp only [F, F2, N0, N_Node, N_Put, N_String]) | (refine awD.rest ?_; cbv; try simp only [F, F2, N0, N_Node, N_Put, N_String]))
                obtain ⟨y33, hy33, hs32⟩ := bnd_out hs32
                refine ⟨gt_in hy33, ?_⟩
                repeat (first | (refine regD.rest 6 ?_; cbv; try simp only [F, F2, N0, N_Node, N_Put, N_String]) | (refine awD.rest ?_; cbv; try simp only [F, F2, N0, N_Node, N_Put, N_String]))
                refine ⟨_, gt_at _ hy33, ?_⟩
                cbv; try simp only [F, F2, N0, N_Node, N_Put, N_String]
                repeat (first | (refine regD.rest 6 ?_; cbv; try simp only [F, F2, N0, N_Node, N_Put, N_String]) | (refine awD.rest ?_; cbv; try simp only [F, F2, N0, N_Node, N_Put, N_String]))
                obtain ⟨y34, hy34, hs32⟩ := bnd_out hs32
                refine ⟨gt_in hy34, ?_⟩
                repeat (first | (refine regD.rest 6 ?_; cbv; try simp only [F, F2, N0, N_Node, N_Put, N_String]) | (refine awD.rest ?_; cbv; try simp only [F, F2, N0, N_Node, N_Put, N_String]))
                refine ⟨_, gt_at _ hy34, ?_⟩
                cbv; try simp only [F, F2, N0, N_Node, N_Put, N_String]
                repeat (first | (refine regD.rest 6 ?_; cbv; try simp only [F, F2, N0, N_Node, N_Put, N_String]) | (refine awD.rest ?_; cbv; try simp only [F, F2, N0, N_Node, N_Put, N_String]))
                split
                · rename_i q36; simp only [q36, cond_true] at hs32 ⊢
                  cbv; try simp only [F, F2, N0, N_Node, N_Put, N_String]
                  repeat (first | (refine regD.rest 6 ?_; cbv; try simp only [F, F2, N0, N_Node, N_Put, N_String]) | (refine awD.rest ?_; cbv; try simp only [F, F2, N0, N_Node, N_Put, N_String]))
                  obtain ⟨c35, hs32⟩ := ck_out hs32
                  refine ⟨c35, ?_⟩
                  repeat (first | (refine regD.rest 6 ?_; cbv; try simp only [F, F2, N0, N_Node, N_Put, N_String]) | (refine awD.rest ?_; cbv; try simp only [F, F2, N0, N_Node, N_Put, N_String]))
                  obtain rfl := Option.some.inj hs32
                  first | exact ⟨_, bs32 _ rfl, rfl⟩ | (refine ⟨_, bs32 _ rfl, ?_⟩; simp only [rows_nil, bys_n]; rfl)
                · rename_i q36; simp only [q36, cond_false] at hs32 ⊢
                  cbv; try simp only [F, F2, N0, N_Node, N_Put, N_String]
                  repeat (first | (refine regD.rest 6 ?_; cbv; try simp only [F, F2, N0, N_Node, N_Put, N_String]) | (refine awD.rest ?_; cbv; try simp only [F, F2, N0, N_Node, N_Put, N_String]))
                  obtain rfl := Option.some.inj hs32
                  first | exact ⟨_, bs32 _ rfl, rfl⟩ | (refine ⟨_, bs32 _ rfl, ?_⟩; simp only [rows_nil, bys_n]; rfl)
              · rename_i q37; simp only [q37, cond_false] at hs32 ⊢
                cbv; try simp only [F, F2, N0, N_Node, N_Put, N_String]
                repeat (first | (refine regD.rest 6 ?_; cbv; try simp only [F, F2, N0, N_Node, N_Put, N_String]) | (refine awD.rest ?_; cbv; try simp only [F, F2, N0, N_Node, N_Put, N_String]))
                obtain rfl := Option.some.inj hs32
                replace ho26 := congrArg some (es32 _ rfl)
                obtain rfl := Option.some.inj ho26
                first | exact ⟨_, rfl, rfl⟩ | (refine ⟨_, rfl, ?_⟩; simp only [rows_nil, bys_n]; rfl)
            · rintro a27 rfl
              clear ho26
              cbv; try simp only [F, F2, N0, N_Node, N_Put, N_String]
              repeat (first | (refine regD.rest 6 ?_; cbv; try simp only [F, F2, N0, N_Node, N_Put, N_String]) | (refine awD.rest ?_; cbv; try simp only [F, F2, N0, N_Node, N_Put, N_String]))
              obtain rfl := Option.some.inj h
              first | exact LeV.to rfl (LeF.rfl' _) | (simp only [rows_nil, bys_n]; exact LeV.to rfl (LeF.rfl' _))
        · simp only [cond_true] at h
          cbv; try simp only [F, F2, N0, N_Node, N_Put, N_String]
          repeat (first | (refine regD.rest 6 ?_; cbv; try simp only [F, F2, N0, N_Node, N_Put, N_String]) | (refine awD.rest ?_; cbv; try simp only [F, F2, N0, N_Node, N_Put, N_String]))
          obtain rfl := Option.some.inj h
          first | exact LeV.to rfl (LeF.nr _ _ _) | (simp only [rows_nil, bys_n]; exact LeV.to rfl (LeF.nr _ _ _))
      · simp only [cond_true] at h
        cbv; try simp only [F, F2, N0, N_Node, N_Put, N_String]
        repeat (first | (refine regD.rest 6 ?_; cbv; try simp only [F, F2, N0, N_Node, N_Put, N_String]) | (refine awD.rest ?_; cbv; try simp only [F, F2, N0, N_Node, N_Put, N_String]))
        obtain rfl := Option.some.inj h
        first | exact LeV.to rfl (LeF.nr _ _ _) | (simp only [rows_nil, bys_n]; exact LeV.to rfl (LeF.nr _ _ _))
theorem r_ishort {a0 : List UInt8} {r : Bool} (h : ishort a0 = some r) : Ret pg 116 true [.s a0] [] (.b r) := by
  unfold ishort at h
  refine retD 1000 1000 [] .o Try.func116 rfl (by decide +kernel) (by decide +kernel) rfl trivial ?_
  cbv; try simp only [F, F2, N0]
  obtain rfl := Option.some.inj h
  first | exact LeV.to rfl (LeF.rfl' _) | (simp only [rows_nil, bys_n]; exact LeV.to rfl (LeF.rfl' _))
theorem r_iTxOk {a0 : Int} {a1 : List PutD} {r : Bool} (h : iTxOk a0 a1 = some r) : Ret pg 95 true [.i .i64 a0, .sl .shr 2 (rows putR a1)] [] (.b r) := by
  unfold iTxOk at h
  refine retD 1000 1000 [] (.s .o (.s .o (.s .o (.k .o .o)))) Try.func95 rfl (by decide +kernel) (by decide +kernel) rfl trivial ?_
  cbv; try simp only [F, F2, N0, N_Put]
  obtain ⟨r3, hr3, h⟩ := bnd_out h
  refine CallK.introE rfl rfl (r_iwithin hr3) ?_
  clear hr3
  cbv; try simp only [F, F2, N0, N_Put]
  cases r3
  · simp only [cond_false] at h
    cbv; try simp only [F, F2, N0, N_Put]
    obtain rfl := Option.some.inj h
    first | exact LeV.to rfl (LeF.rfl' _) | (simp only [rows_nil, bys_n]; exact LeV.to rfl (LeF.rfl' _))
  · simp only [cond_true] at h
    cbv; try simp only [F, F2, N0, N_Put]
    split
    · rename_i q35; simp only [q35, cond_true] at h ⊢
      cbv; try simp only [F, F2, N0, N_Put]
      obtain rfl := Option.some.inj h
      first | exact LeV.to rfl (LeF.rfl' _) | (simp only [rows_nil, bys_n]; exact LeV.to rfl (LeF.rfl' _))
    · rename_i q35; simp only [q35, cond_false] at h ⊢
      cbv; try simp only [F, F2, N0, N_Put]
      obtain ⟨o22, ho22, h⟩ := bnd_out h
      refine CutK.intro (α := Unit) [] [] (fun a => []) (fun a => []) (fun a => (Sum.inl a : _ ⊕ _) = o22) ?_ ?_
      · cbv; try simp only [F, F2, N0, N_Put]
        refine LoopR (σ := Int × Int) ho22 [0, 5, 16, 17, 18] [] (fun a => [(5, .i .i64 a.1), (18, .i .i64 a.2)]) (fun a => []) (by first | rfl | (simp only [rows_nil, bys_n]; rfl)) fun _ s30 xs30 hs30 bs30 es30 => ?_
        obtain ⟨s30_0, s30_1⟩ := s30
        try dsimp only at hs30
        cbv; try simp only [F, F2, N0, N_Put]
        split
        · rename_i q34; simp only [q34, cond_true] at hs30 ⊢
          cbv; try simp only [F, F2, N0, N_Put]
          obtain ⟨y31, hy31, hs30⟩ := bnd_out hs30
          refine ⟨gt_in hy31, ?_⟩
          refine ⟨_, gt_at _ hy31, ?_⟩
          cbv; try simp only [F, F2, N0, N_Put]
          obtain ⟨r32, hr32, hs30⟩ := bnd_out hs30
          refine CallK.introE rfl rfl (r_iwithin hr32) ?_
          clear hr32
          cbv; try simp only [F, F2, N0, N_Put]
          cases r32
          · simp only [cond_false] at hs30
            cbv; try simp only [F, F2, N0, N_Put]
            obtain rfl := Option.some.inj hs30
            replace ho22 := congrArg some (es30 _ rfl)
            obtain rfl := Option.some.inj ho22
            simp only [Sum.elim_inr] at h
            obtain rfl := Option.some.inj h
            first | exact LeV.to rfl (LeF.rfl' _) | (simp only [rows_nil, bys_n]; exact LeV.to rfl (LeF.rfl' _))
          · simp only [cond_true] at hs30
            cbv; try simp only [F, F2, N0, N_Put]
            obtain ⟨r33, hr33, hs30⟩ := bnd_out hs30
            refine CallK.introE rfl rfl (r_ishort hr33) ?_
            clear hr33
            cbv; try simp only [F, F2, N0, N_Put]
            cases r33
            · simp only [cond_false] at hs30
              cbv; try simp only [F, F2, N0, N_Put]
              obtain rfl := Option.some.inj hs30
              replace ho22 := congrArg some (es30 _ rfl)
              obtain rfl := Option.some.inj ho22
              simp only [Sum.elim_inr] at h
              obtain rfl := Option.some.inj h
              first | exact LeV.to rfl (LeF.rfl' _) | (simp only [rows_nil, bys_n]; exact LeV.to rfl (LeF.rfl' _))
            · simp only [cond_true] at hs30
              cbv; try simp only [F, F2, N0, N_Put]
              obtain rfl := Option.some.inj hs30
              first | exact ⟨_, bs30 _ rfl, rfl⟩ | (refine ⟨_, bs30 _ rfl, ?_⟩; simp only [rows_nil, bys_n]; rfl)
        · rename_i q34; simp only [q34, cond_false] at hs30 ⊢
          cbv; try simp only [F, F2, N0, N_Put]
          obtain rfl := Option.some.inj hs30
          replace ho22 := congrArg some (es30 _ rfl)
          obtain rfl := Option.some.inj ho22
          first | exact ⟨_, rfl, rfl⟩ | (refine ⟨_, rfl, ?_⟩; simp only [rows_nil, bys_n]; rfl)
      · rintro a23 rfl
        clear ho22
        simp only [Sum.elim_inl] at h
        cbv; try simp only [F, F2, N0, N_Put]
        obtain rfl := Option.some.inj h
        first | exact LeV.to rfl (LeF.rfl' _) | (simp only [rows_nil, bys_n]; exact LeV.to rfl (LeF.rfl' _))
theorem r_iPutText {a0 : List UInt8} {r : (List UInt8)} (h : iPutText a0 = some r) : Ret pg 130 true [.s a0] [] (.sl .own 1 (bys r)) := by
  unfold iPutText at h
  refine retD 1000 1000 [] .o Try.func130 rfl (by decide +kernel) (by decide +kernel) rfl ⟨rfl, own_bysS _⟩ ?_
  cbv; try simp only [F, F2, N0, N_Byte]
  obtain ⟨r2, hr2, h⟩ := bnd_out h
  refine CallK.introE rfl rfl (r_iPutNum hr2) ?_
  clear hr2
  cbv; try simp only [F, F2, N0, N_Byte]
  obtain ⟨c3, h⟩ := ck_out h
  refine ⟨c3, ?_⟩
  obtain rfl := Option.some.inj h
  first | exact LeV.to rfl (LeF.rfl' _) | (simp only [rows_nil, bys_n]; exact LeV.to rfl (LeF.rfl' _))
theorem r_iCrc {a0 : List UInt8} {r : Int} (h : iCrc a0 = some r) : Ret pg 131 true [.sl .shr 1 (bys a0)] [] (.i .i64 r) := by
  unfold iCrc at h
  refine retD 1000 1000 [] (.s .o (.s .o (.k (.s .o (.s (.s (.s .o (.s .o (.k .o .o))) .o) .o)) .o))) Try.func131 rfl (by decide +kernel) (by decide +kernel) rfl trivial ?_
  cbv; try simp only [F, F2, N0, N_Byte]
  obtain ⟨o15, ho15, h⟩ := bnd_out h
  refine CutK.intro (α := Int) [3] [] (fun a => [(3, .i .i64 a)]) (fun a => []) (fun a => a = o15) ?_ ?_
  · cbv; try simp only [F, F2, N0, N_Byte]
    refine LoopR (σ := Int × Int) ho15 [3, 7, 8, 9] [] (fun a => [(3, .i .i64 a.1), (9, .i .i64 a.2)]) (fun a => []) (by first | rfl | (simp only [rows_nil, bys_n]; rfl)) fun _ s25 xs25 hs25 bs25 es25 => ?_
    obtain ⟨s25_0, s25_1⟩ := s25
    try dsimp only at hs25
    cbv; try simp only [F, F2, N0, N_Byte]
    split
    · rename_i q34; simp only [q34, cond_true] at hs25 ⊢
      cbv; try simp only [F, F2, N0, N_Byte]
      obtain ⟨o28, ho28, hs25⟩ := bnd_out hs25
      refine CutK.intro (α := Int) [3, 7, 8, 9] [] (fun a => [(3, .i .i64 a)]) (fun a => []) (fun a => a = o28) ?_ ?_
      · cbv; try simp only [F, F2, N0, N_Byte]
        obtain ⟨y30, hy30, ho28⟩ := bnd_out ho28
        refine ⟨gt_in hy30, ?_⟩
        refine ⟨_, gt_ab hy30, ?_⟩
        cbv; try simp only [F, F2, N0, N_Byte]
        refine LoopR (σ := Int × Int) ho28 [3, 7, 8, 9, 17] [] (fun a => [(3, .i .i64 a.1), (17, .i .i64 a.2)]) (fun a => []) (by first | rfl | (simp only [rows_nil, bys_n]; rfl)) fun _ s31 xs31 hs31 bs31 es31 => ?_
        obtain ⟨s31_0, s31_1⟩ := s31
        try dsimp only at hs31
        cbv; try simp only [F, F2, N0, N_Byte]
        split
        · rename_i q33; simp only [q33, cond_true] at hs31 ⊢
          cbv; try simp only [F, F2, N0, N_Byte]
          refine ⟨by rw [icmp_geq]; rfl, ?_⟩
          split
          · rename_i q32; simp only [q32, cond_true] at hs31 ⊢
            cbv; try simp only [F, F2, N0, N_Byte]
            obtain rfl := Option.some.inj hs31
            first | exact ⟨_, bs31 _ rfl, rfl⟩ | (refine ⟨_, bs31 _ rfl, ?_⟩; simp only [rows_nil, bys_n]; rfl)
          · rename_i q32; simp only [q32, cond_false] at hs31 ⊢
            cbv; try simp only [F, F2, N0, N_Byte]
            obtain rfl := Option.some.inj hs31
            first | exact ⟨_, bs31 _ rfl, rfl⟩ | (refine ⟨_, bs31 _ rfl, ?_⟩; simp only [rows_nil, bys_n]; rfl)
        · rename_i q33; simp only [q33, cond_false] at hs31 ⊢
          cbv; try simp only [F, F2, N0, N_Byte]
          obtain rfl := Option.some.inj hs31
          replace ho28 := congrArg some (es31 _ rfl)
          obtain rfl := Option.some.inj ho28
          first | exact ⟨_, rfl, rfl⟩ | (refine ⟨_, rfl, ?_⟩; simp only [rows_nil, bys_n]; rfl)
      · rintro a29 rfl
        clear ho28
        cbv; try simp only [F, F2, N0, N_Byte]
        obtain rfl := Option.some.inj hs25
        first | exact ⟨_, bs25 _ rfl, rfl⟩ | (refine ⟨_, bs25 _ rfl, ?_⟩; simp only [rows_nil, bys_n]; rfl)
    · rename_i q34; simp only [q34, cond_false] at hs25 ⊢
      cbv; try simp only [F, F2, N0, N_Byte]
      obtain rfl := Option.some.inj hs25
      replace ho15 := congrArg some (es25 _ rfl)
      obtain rfl := Option.some.inj ho15
      first | exact ⟨_, rfl, rfl⟩ | (refine ⟨_, rfl, ?_⟩; simp only [rows_nil, bys_n]; rfl)
  · rintro a16 rfl
    clear ho15
    cbv; try simp only [F, F2, N0, N_Byte]
    obtain rfl := Option.some.inj h
    first | exact LeV.to rfl (LeF.rfl' _) | (simp only [rows_nil, bys_n]; exact LeV.to rfl (LeF.rfl' _))
theorem r_idataSum {a0 : List (List UInt8)} {r : Int} (h : idataSum a0 = some r) : Ret pg 118 true [.sl .shr 1 (rows strR a0)] [] (.i .i64 r) := by
  unfold idataSum at h
  refine retD 1000 1000 [] (.s .o (.s .o (.k .o .o))) Try.func118 rfl (by decide +kernel) (by decide +kernel) rfl trivial ?_
  cbv; try simp only [F, F2, N0, N_Byte, N_String]
  obtain ⟨o11, ho11, h⟩ := bnd_out h
  refine CutK.intro (α := (List UInt8)) [3] [] (fun a => [(3, .sl .own 1 (bys a))]) (fun a => []) (fun a => a = o11) ?_ ?_
  · cbv; try simp only [F, F2, N0, N_Byte, N_String]
    refine LoopR (σ := (List UInt8) × Int) ho11 [3, 7, 8, 9] [] (fun a => [(3, .sl .own 1 (bys a.1)), (9, .i .i64 a.2)]) (fun a => []) (by first | rfl | (simp only [rows_nil, bys_n]; rfl)) fun _ s19 xs19 hs19 bs19 es19 => ?_
    obtain ⟨s19_0, s19_1⟩ := s19
    try dsimp only at hs19
    cbv; try simp only [F, F2, N0, N_Byte, N_String]
    split
    · rename_i q23; simp only [q23, cond_true] at hs19 ⊢
      cbv; try simp only [F, F2, N0, N_Byte, N_String]
      obtain ⟨y20, hy20, hs19⟩ := bnd_out hs19
      refine ⟨gt_in hy20, ?_⟩
      refine ⟨_, gt_at _ hy20, ?_⟩
      cbv; try simp only [F, F2, N0, N_Byte, N_String]
      obtain ⟨r21, hr21, hs19⟩ := bnd_out hs19
      refine CallK.introE rfl rfl (r_iPutText hr21) ?_
      clear hr21
      cbv; try simp only [F, F2, N0, N_Byte, N_String]
      obtain ⟨c22, hs19⟩ := ck_out hs19
      refine ⟨c22, ?_⟩
      obtain rfl := Option.some.inj hs19
      first | exact ⟨_, bs19 _ rfl, rfl⟩ | (refine ⟨_, bs19 _ rfl, ?_⟩; simp only [rows_nil, bys_n]; rfl)
    · rename_i q23; simp only [q23, cond_false] at hs19 ⊢
      cbv; try simp only [F, F2, N0, N_Byte, N_String]
      obtain rfl := Option.some.inj hs19
      replace ho11 := congrArg some (es19 _ rfl)
      obtain rfl := Option.some.inj ho11
      first | exact ⟨_, rfl, rfl⟩ | (refine ⟨_, rfl, ?_⟩; simp only [rows_nil, bys_n]; rfl)
  · rintro a12 rfl
    clear ho11
    cbv; try simp only [F, F2, N0, N_Byte, N_String]
    obtain ⟨r14, hr14, h⟩ := bnd_out h
    refine CallK.introE rfl rfl (r_iCrc hr14) ?_
    clear hr14
    cbv; try simp only [F, F2, N0, N_Byte, N_String]
    obtain rfl := Option.some.inj h
    first | exact LeV.to rfl (LeF.rfl' _) | (simp only [rows_nil, bys_n]; exact LeV.to rfl (LeF.rfl' _))
theorem r_iheadBytes {a0 : List Int} {a1 : Int} {r : (List UInt8)} (h : iheadBytes a0 a1 = some r) : Ret pg 117 true [.sl .shr 1 (rows intR a0), .i .i64 a1] [] (.sl .own 1 (bys r)) := by
  unfold iheadBytes at h
  refine retD 1000 1000 [] (.s .o (.s .o (.k .o .o))) Try.func117 rfl (by decide +kernel) (by decide +kernel) rfl ⟨rfl, own_bysS _⟩ ?_
  have e74 : (∀ f z, V.sl f z [[V.i .u8 74]] = V.sl f z (bys [74])) ∧ (∀ l, sn (bys l) [V.i .u8 74] = bys (ap l [74])) := ⟨fun _ _ => by rw [show [[V.i .u8 74]] = bys [74] from by rw [bys_eq]; rfl], fun l => sn_b l 74⟩
  cbv; try simp only [F, F2, N0, N_Byte, N_Int, e74]
  obtain ⟨r2, hr2, h⟩ := bnd_out h
  refine CallK.introE rfl rfl (r_iPutNum hr2) ?_
  clear hr2
  cbv; try simp only [F, F2, N0, N_Byte, N_Int, e74]
  obtain ⟨c25, h⟩ := ck_out h
  refine ⟨c25, ?_⟩
  obtain ⟨o13, ho13, h⟩ := bnd_out h
  refine CutK.intro (α := (List UInt8)) [1, 5] [] (fun a => [(5, .sl .own 1 (bys a))]) (fun a => []) (fun a => a = o13) ?_ ?_
  · cbv; try simp only [F, F2, N0, N_Byte, N_Int, e74]
    refine LoopR (σ := (List UInt8) × Int) ho13 [1, 5, 13, 14, 15] [] (fun a => [(5, .sl .own 1 (bys a.1)), (15, .i .i64 a.2)]) (fun a => []) (by first | rfl | (simp only [rows_nil, bys_n]; rfl)) fun _ s20 xs20 hs20 bs20 es20 => ?_
    obtain ⟨s20_0, s20_1⟩ := s20
    try dsimp only at hs20
    cbv; try simp only [F, F2, N0, N_Byte, N_Int, e74]
    split
    · rename_i q24; simp only [q24, cond_true] at hs20 ⊢
      cbv; try simp only [F, F2, N0, N_Byte, N_Int, e74]
      obtain ⟨y21, hy21, hs20⟩ := bnd_out hs20
      refine ⟨gt_in hy21, ?_⟩
      refine ⟨_, gt_at _ hy21, ?_⟩
      cbv; try simp only [F, F2, N0, N_Byte, N_Int, e74]
      obtain ⟨r22, hr22, hs20⟩ := bnd_out hs20
      refine CallK.introE rfl rfl (r_iPutNum hr22) ?_
      clear hr22
      cbv; try simp only [F, F2, N0, N_Byte, N_Int, e74]
      obtain ⟨c23, hs20⟩ := ck_out hs20
      refine ⟨c23, ?_⟩
      obtain rfl := Option.some.inj hs20
      first | exact ⟨_, bs20 _ rfl, rfl⟩ | (refine ⟨_, bs20 _ rfl, ?_⟩; simp only [rows_nil, bys_n]; rfl)
    · rename_i q24; simp only [q24, cond_false] at hs20 ⊢
      cbv; try simp only [F, F2, N0, N_Byte, N_Int, e74]
      obtain rfl := Option.some.inj hs20
      replace ho13 := congrArg some (es20 _ rfl)
      obtain rfl := Option.some.inj ho13
      first | exact ⟨_, rfl, rfl⟩ | (refine ⟨_, rfl, ?_⟩; simp only [rows_nil, bys_n]; rfl)
  · rintro a14 rfl
    clear ho13
    cbv; try simp only [F, F2, N0, N_Byte, N_Int, e74]
    refine ⟨by rw [icmp_geq]; rfl, ?_⟩
    refine ⟨by rw [icmp_geq]; rfl, ?_⟩
    refine ⟨by rw [icmp_geq]; rfl, ?_⟩
    obtain ⟨c15, h⟩ := ck_out h
    refine ⟨c15, ?_⟩
    obtain rfl := Option.some.inj h
    first | exact LeV.to rfl (LeF.rfl' _) | (simp only [rows_nil, bys_n]; exact LeV.to rfl (LeF.rfl' _))
theorem r_iHeadText {a0 : List PutD} {r : (List UInt8)} (h : iHeadText a0 = some r) : Ret pg 96 true [.sl .shr 2 (rows putR a0)] [] (.s r) := by
  unfold iHeadText at h
  refine retD 1000 1000 [] (.s .o (.s .o (.s .o (.k .o .o)))) Try.func96 rfl (by decide +kernel) (by decide +kernel) rfl trivial ?_
  cbv; try simp only [F, F2, N0, N_Byte, N_Int, N_Put, N_String]
  obtain ⟨r3, hr3, h⟩ := bnd_out h
  refine CallK.introE rfl rfl (r_iTxOk hr3) ?_
  clear hr3
  cbv; try simp only [F, F2, N0, N_Byte, N_Int, N_Put, N_String]
  cases r3
  · simp only [cond_false] at h
    cbv; try simp only [F, F2, N0, N_Byte, N_Int, N_Put, N_String]
    obtain rfl := Option.some.inj h
    first | exact LeV.to rfl (LeF.rfl' _) | (simp only [rows_nil, bys_n]; exact LeV.to rfl (LeF.rfl' _))
  · simp only [cond_true] at h
    cbv; try simp only [F, F2, N0, N_Byte, N_Int, N_Put, N_String]
    obtain ⟨o10, ho10, h⟩ := bnd_out h
    refine CutK.intro (α := (List Int) × (List (List UInt8))) [3, 4] [] (fun a => [(3, .sl .own 1 (rows intR a.1)), (4, .sl .own 1 (rows strR a.2))]) (fun a => []) (fun a => a = o10) ?_ ?_
    · cbv; try simp only [F, F2, N0, N_Byte, N_Int, N_Put, N_String]
      refine LoopR (σ := (List Int) × (List (List UInt8)) × Int) ho10 [3, 4, 12, 13, 14] [] (fun a => [(3, .sl .own 1 (rows intR a.1)), (4, .sl .own 1 (rows strR a.2.1)), (14, .i .i64 a.2.2)]) (fun a => []) (by first | rfl | (simp only [rows_nil, bys_n]; rfl)) fun _ s18 xs18 hs18 bs18 es18 => ?_
      obtain ⟨s18_0, s18_1, s18_2⟩ := s18
      try dsimp only at hs18
      cbv; try simp only [F, F2, N0, N_Byte, N_Int, N_Put, N_String]
      split
      · rename_i q22; simp only [q22, cond_true] at hs18 ⊢
        cbv; try simp only [F, F2, N0, N_Byte, N_Int, N_Put, N_String]
        obtain ⟨y19, hy19, hs18⟩ := bnd_out hs18
        refine ⟨gt_in hy19, ?_⟩
        refine ⟨_, gt_at _ hy19, ?_⟩
        cbv; try simp only [F, F2, N0, N_Byte, N_Int, N_Put, N_String]
        obtain ⟨c21, hs18⟩ := ck_out hs18
        refine ⟨c21, ?_⟩
        obtain ⟨c20, hs18⟩ := ck_out hs18
        refine ⟨c20, ?_⟩
        obtain rfl := Option.some.inj hs18
        first | exact ⟨_, bs18 _ rfl, rfl⟩ | (refine ⟨_, bs18 _ rfl, ?_⟩; simp only [rows_nil, bys_n]; rfl)
      · rename_i q22; simp only [q22, cond_false] at hs18 ⊢
        cbv; try simp only [F, F2, N0, N_Byte, N_Int, N_Put, N_String]
        obtain rfl := Option.some.inj hs18
        replace ho10 := congrArg some (es18 _ rfl)
        obtain rfl := Option.some.inj ho10
        first | exact ⟨_, rfl, rfl⟩ | (refine ⟨_, rfl, ?_⟩; simp only [rows_nil, bys_n]; rfl)
    · rintro a11 rfl
      clear ho10
      obtain ⟨a11_0, a11_1⟩ := a11
      try dsimp only at h
      cbv; try simp only [F, F2, N0, N_Byte, N_Int, N_Put, N_String]
      obtain ⟨r14, hr14, h⟩ := bnd_out h
      refine CallK.introE rfl rfl (r_idataSum hr14) ?_
      clear hr14
      cbv; try simp only [F, F2, N0, N_Byte, N_Int, N_Put, N_String]
      obtain ⟨r15, hr15, h⟩ := bnd_out h
      refine CallK.introE rfl rfl (r_iheadBytes hr15) ?_
      clear hr15
      cbv; try simp only [F, F2, N0, N_Byte, N_Int, N_Put, N_String]
      obtain rfl := Option.some.inj h
      first | exact LeV.to rfl (LeF.rfl' _) | (simp only [rows_nil, bys_n]; exact LeV.to rfl (LeF.rfl' _))
theorem r_iCommit {a0 : Int} {a1 : List PutD} {r : (List EventD)} (h : iCommit a0 a1 = some r) : Ret pg 62 true [.i .i64 a0, .sl .shr 2 (rows putR a1)] [] (.sl .own 3 (rows eventR r)) := by
  unfold iCommit at h
  refine retD 8 3 [(10, [⟨true, [], [6, 33]⟩, ⟨false, [35, 36, 36, 37, 38], [34]⟩, ⟨false, [34], [35]⟩, ⟨false, [34, 38], [36]⟩, ⟨false, [34, 38], [36, 37]⟩, ⟨false, [34, 36, 36, 37], [38]⟩, ⟨true, [], [34, 37, 38, 39]⟩, ⟨true, [], [40]⟩, ⟨true, [], [6]⟩])] (.s .o (.s .o (.s .o (.s .o (.k .o (.s .o (.k .o .o))))))) Try.func62 rfl (by decide +kernel) (by decide +kernel) rfl ⟨rfl, own_eventS _⟩ ?_
  cbv; try simp only [F, F2, N0, N_Event, N_Put]
  repeat (first | (refine regD.rest 6 ?_; cbv; try simp only [F, F2, N0, N_Event, N_Put]) | (refine awD.rest ?_; cbv; try simp only [F, F2, N0, N_Event, N_Put]))
  obtain ⟨r3, hr3, h⟩ := bnd_out h
  refine CallK.introE rfl rfl (r_iTxOk hr3) ?_
  clear hr3
  cbv; try simp only [F, F2, N0, N_Event, N_Put]
  repeat (first | (refine regD.rest 6 ?_; cbv; try simp only [F, F2, N0, N_Event, N_Put]) | (refine awD.rest ?_; cbv; try simp only [F, F2, N0, N_Event, N_Put]))
  cases r3
  · simp only [cond_false] at h
    cbv; try simp only [F, F2, N0, N_Event, N_Put]
    repeat (first | (refine regD.rest 6 ?_; cbv; try simp only [F, F2, N0, N_Event, N_Put]) | (refine awD.rest ?_; cbv; try simp only [F, F2, N0, N_Event, N_Put]))
    obtain rfl := Option.some.inj h
    first | exact LeV.to rfl (LeF.nr _ _ _) | (simp only [rows_nil, bys_n]; exact LeV.to rfl (LeF.nr _ _ _))
  · simp only [cond_true] at h
    cbv; try simp only [F, F2, N0, N_Event, N_Put]
    repeat (first | (refine regD.rest 6 ?_; cbv; try simp only [F, F2, N0, N_Event, N_Put]) | (refine awD.rest ?_; cbv; try simp only [F, F2, N0, N_Event, N_Put]))
    obtain ⟨o10, ho10, h⟩ := bnd_out h
    refine CutK.intro (α := (List EventD)) [0, 1, 5, 6] [5] (fun a => [(6, .sl .own 3 (rows eventR a))]) (fun a => []) (fun a => a = o10) ?_ ?_
    · cbv; try simp only [F, F2, N0, N_Event, N_Put]
      repeat (first | (refine regD.rest 6 ?_; cbv; try simp only [F, F2, N0, N_Event, N_Put]) | (refine awD.rest ?_; cbv; try simp only [F, F2, N0, N_Event, N_Put]))
      refine LoopR (σ := (List EventD) × Int) ho10 [0, 1, 5, 6, 17, 18, 19] [5] (fun a => [(6, .sl .own 3 (rows eventR a.1)), (19, .i .i64 a.2)]) (fun a => []) (by first | rfl | (simp only [rows_nil, bys_n]; rfl)) fun _ s32 xs32 hs32 bs32 es32 => ?_
      obtain ⟨s32_0, s32_1⟩ := s32
      try dsimp only at hs32
      cbv; try simp only [F, F2, N0, N_Event, N_Put]
      repeat (first | (refine regD.rest 6 ?_; cbv; try simp only [F, F2, N0, N_Event, N_Put]) | (refine awD.rest ?_; cbv; try simp only [F, F2, N0, N_Event, N_Put]))
      split
      · rename_i q35; simp only [q35, cond_true] at hs32 ⊢
        cbv; try simp only [F, F2, N0, N_Event, N_Put]
        repeat (first | (refine regD.rest 6 ?_; cbv; try simp only [F, F2, N0, N_Event, N_Put]) | (refine awD.rest ?_; cbv; try simp only [F, F2, N0, N_Event, N_Put]))
        obtain ⟨y33, hy33, hs32⟩ := bnd_out hs32
        refine ⟨gt_in hy33, ?_⟩
        repeat (first | (refine regD.rest 6 ?_; cbv; try simp only [F, F2, N0, N_Event, N_Put]) | (refine awD.rest ?_; cbv; try simp only [F, F2, N0, N_Event, N_Put]))
        refine ⟨_, gt_at _ hy33, ?_⟩
        cbv; try simp only [F, F2, N0, N_Event, N_Put]
        repeat (first | (refine regD.rest 6 ?_; cbv; try simp only [F, F2, N0, N_Event, N_Put]) | (refine awD.rest ?_; cbv; try simp only [F, F2, N0, N_Event, N_Put]))
        obtain ⟨c34, hs32⟩ := ck_out hs32
        refine ⟨c34, ?_⟩
        repeat (first | (refine regD.rest 6 ?_; cbv; try simp only [F, F2, N0, N_Event, N_Put]) | (refine awD.rest ?_; cbv; try simp only [F, F2, N0, N_Event, N_Put]))
        obtain rfl := Option.some.inj hs32
        first | exact ⟨_, bs32 _ rfl, rfl⟩ | (refine ⟨_, bs32 _ rfl, ?_⟩; simp only [rows_nil, bys_n]; rfl)
      · rename_i q35; simp only [q35, cond_false] at hs32 ⊢
        cbv; try simp only [F, F2, N0, N_Event, N_Put]
        repeat (first | (refine regD.rest 6 ?_; cbv; try simp only [F, F2, N0, N_Event, N_Put]) | (refine awD.rest ?_; cbv; try simp only [F, F2, N0, N_Event, N_Put]))
        obtain rfl := Option.some.inj hs32
        replace ho10 := congrArg some (es32 _ rfl)
        obtain rfl := Option.some.inj ho10
        first | exact ⟨_, rfl, rfl⟩ | (refine ⟨_, rfl, ?_⟩; simp only [rows_nil, bys_n]; rfl)
    · rintro a11 rfl
      clear ho10
      cbv; try simp only [F, F2, N0, N_Event, N_Put]
      repeat (first | (refine regD.rest 6 ?_; cbv; try simp only [F, F2, N0, N_Event, N_Put]) | (refine awD.rest ?_; cbv; try simp only [F, F2, N0, N_Event, N_Put]))
      obtain ⟨r13, hr13, h⟩ := bnd_out h
      refine CallK.introE rfl rfl (r_iHeadText hr13) ?_
      clear hr13
      cbv; try simp only [F, F2, N0, N_Event, N_Put]
      repeat (first | (refine regD.rest 6 ?_; cbv; try simp only [F, F2, N0, N_Event, N_Put]) | (refine awD.rest ?_; cbv; try simp only [F, F2, N0, N_Event, N_Put]))
      obtain ⟨c29, h⟩ := ck_out h
      refine ⟨c29, ?_⟩
      repeat (first | (refine regD.rest 6 ?_; cbv; try simp only [F, F2, N0, N_Event, N_Put]) | (refine awD.rest ?_; cbv; try simp only [F, F2, N0, N_Event, N_Put]))
      obtain ⟨o20, ho20, h⟩ := bnd_out h
      refine CutK.intro (α := (List EventD)) [5, 6] [5] (fun a => [(6, .sl .own 3 (rows eventR a))]) (fun a => []) (fun a => a = o20) ?_ ?_
      · cbv; try simp only [F, F2, N0, N_Event, N_Put]
        repeat (first | (refine regD.rest 6 ?_; cbv; try simp only [F, F2, N0, N_Event, N_Put]) | (refine awD.rest ?_; cbv; try simp only [F, F2, N0, N_Event, N_Put]))
        refine LoopR (σ := (List EventD) × Int) ho20 [0, 5, 6, 41, 42, 43] [5] (fun a => [(6, .sl .own 3 (rows eventR a.1)), (43, .i .i64 a.2)]) (fun a => []) (by first | rfl | (simp only [rows_nil, bys_n]; rfl)) fun _ s25 xs25 hs25 bs25 es25 => ?_
        obtain ⟨s25_0, s25_1⟩ := s25
        try dsimp only at hs25
        cbv; try simp only [F, F2, N0, N_Event, N_Put]
        repeat (first | (refine regD.rest 6 ?_; cbv; try simp only [F, F2, N0, N_Event, N_Put]) | (refine awD.rest ?_; cbv; try simp only [F, F2, N0, N_Event, N_Put]))
        split
        · rename_i q28; simp only [q28, cond_true] at hs25 ⊢
          cbv; try simp only [F, F2, N0, N_Event, N_Put]
          repeat (first | (refine regD.rest 6 ?_; cbv; try simp only [F, F2, N0, N_Event, N_Put]) | (refine awD.rest ?_; cbv; try simp only [F, F2, N0, N_Event, N_Put]))
          obtain ⟨y26, hy26, hs25⟩ := bnd_out hs25
          refine ⟨gt_in hy26, ?_⟩
          repeat (first | (refine regD.rest 6 ?_; cbv; try simp only [F, F2, N0, N_Event, N_Put]) | (refine awD.rest ?_; cbv; try simp only [F, F2, N0, N_Event, N_Put]))
          refine ⟨_, gt_at _ hy26, ?_⟩
          cbv; try simp only [F, F2, N0, N_Event, N_Put]
          repeat (first | (refine regD.rest 6 ?_; cbv; try simp only [F, F2, N0, N_Event, N_Put]) | (refine awD.rest ?_; cbv; try simp only [F, F2, N0, N_Event, N_Put]))
          obtain ⟨c27, hs25⟩ := ck_out hs25
          refine ⟨c27, ?_⟩
          repeat (first | (refine regD.rest 6 ?_; cbv; try simp only [F, F2, N0, N_Event, N_Put]) | (refine awD.rest ?_; cbv; try simp only [F, F2, N0, N_Event, N_Put]))
          obtain rfl := Option.some.inj hs25
          first | exact ⟨_, bs25 _ rfl, rfl⟩ | (refine ⟨_, bs25 _ rfl, ?_⟩; simp only [rows_nil, bys_n]; rfl)
        · rename_i q28; simp only [q28, cond_false] at hs25 ⊢
          cbv; try simp only [F, F2, N0, N_Event, N_Put]
          repeat (first | (refine regD.rest 6 ?_; cbv; try simp only [F, F2, N0, N_Event, N_Put]) | (refine awD.rest ?_; cbv; try simp only [F, F2, N0, N_Event, N_Put]))
          obtain rfl := Option.some.inj hs25
          replace ho20 := congrArg some (es25 _ rfl)
          obtain rfl := Option.some.inj ho20
          first | exact ⟨_, rfl, rfl⟩ | (refine ⟨_, rfl, ?_⟩; simp only [rows_nil, bys_n]; rfl)
      · rintro a21 rfl
        clear ho20
        cbv; try simp only [F, F2, N0, N_Event, N_Put]
        repeat (first | (refine regD.rest 6 ?_; cbv; try simp only [F, F2, N0, N_Event, N_Put]) | (refine awD.rest ?_; cbv; try simp only [F, F2, N0, N_Event, N_Put]))
        obtain ⟨c22, h⟩ := ck_out h
        refine ⟨c22, ?_⟩
        repeat (first | (refine regD.rest 6 ?_; cbv; try simp only [F, F2, N0, N_Event, N_Put]) | (refine awD.rest ?_; cbv; try simp only [F, F2, N0, N_Event, N_Put]))
        obtain rfl := Option.some.inj h
        first | exact LeV.to rfl (LeF.rfl' _) | (simp only [rows_nil, bys_n]; exact LeV.to rfl (LeF.rfl' _))
theorem r_iStepEvents {a0 : PoolD} {a1 : StepD} {r : (List EventD)} (h : iStepEvents a0 a1 = some r) : Ret pg 25 true [.ag (poolC a0), .ag (stepC a1)] [] (.sl .own 3 (rows eventR r)) := by
  unfold iStepEvents at h
  refine retD 8 3 [(4, [⟨false, [23, 24], [21]⟩, ⟨false, [23, 24], [22]⟩, ⟨false, [21, 22], [23]⟩, ⟨false, [21, 22], [24]⟩, ⟨true, [], [25]⟩, ⟨true, [], [26]⟩]), (6, [⟨false, [29, 30, 31], [27]⟩, ⟨false, [29, 30, 31], [28]⟩, ⟨false, [27, 28, 30, 31], [29]⟩, ⟨false, [27, 28, 29], [30]⟩, ⟨false, [27, 28, 29], [31]⟩, ⟨true, [], [32]⟩, ⟨true, [], [33]⟩, ⟨true, [], [4]⟩])] .o Try.func25 rfl (by decide +kernel) (by decide +kernel) rfl ⟨rfl, own_eventS _⟩ ?_
  cbv; try simp only [F, F2, N0, N_Branch, N_Event, N_Node, N_Put, N_String]
  repeat (first | (refine regD.rest 6 ?_; cbv; try simp only [F, F2, N0, N_Branch, N_Event, N_Node, N_Put, N_String]) | (refine awD.rest ?_; cbv; try simp only [F, F2, N0, N_Branch, N_Event, N_Node, N_Put, N_String]))
  obtain ⟨r3, hr3, h⟩ := bnd_out h
  refine CallK.introE rfl rfl (r_iwithin hr3) ?_
  clear hr3
  cbv; try simp only [F, F2, N0, N_Branch, N_Event, N_Node, N_Put, N_String]
  repeat (first | (refine regD.rest 6 ?_; cbv; try simp only [F, F2, N0, N_Branch, N_Event, N_Node, N_Put, N_String]) | (refine awD.rest ?_; cbv; try simp only [F, F2, N0, N_Branch, N_Event, N_Node, N_Put, N_String]))
  cases r3
  · simp only [cond_false] at h
    cbv; try simp only [F, F2, N0, N_Branch, N_Event, N_Node, N_Put, N_String]
    repeat (first | (refine regD.rest 6 ?_; cbv; try simp only [F, F2, N0, N_Branch, N_Event, N_Node, N_Put, N_String]) | (refine awD.rest ?_; cbv; try simp only [F, F2, N0, N_Branch, N_Event, N_Node, N_Put, N_String]))
    obtain rfl := Option.some.inj h
    first | exact LeV.to rfl (LeF.nr _ _ _) | (simp only [rows_nil, bys_n]; exact LeV.to rfl (LeF.nr _ _ _))
  · simp only [cond_true] at h
    cbv; try simp only [F, F2, N0, N_Branch, N_Event, N_Node, N_Put, N_String]
    repeat (first | (refine regD.rest 6 ?_; cbv; try simp only [F, F2, N0, N_Branch, N_Event, N_Node, N_Put, N_String]) | (refine awD.rest ?_; cbv; try simp only [F, F2, N0, N_Branch, N_Event, N_Node, N_Put, N_String]))
    obtain ⟨y5, hy5, h⟩ := bnd_out h
    refine ⟨gt_in hy5, ?_⟩
    repeat (first | (refine regD.rest 6 ?_; cbv; try simp only [F, F2, N0, N_Branch, N_Event, N_Node, N_Put, N_String]) | (refine awD.rest ?_; cbv; try simp only [F, F2, N0, N_Branch, N_Event, N_Node, N_Put, N_String]))
    refine ⟨_, gt_at _ hy5, ?_⟩
    cbv; try simp only [F, F2, N0, N_Branch, N_Event, N_Node, N_Put, N_String]
    repeat (first | (refine regD.rest 6 ?_; cbv; try simp only [F, F2, N0, N_Branch, N_Event, N_Node, N_Put, N_String]) | (refine awD.rest ?_; cbv; try simp only [F, F2, N0, N_Branch, N_Event, N_Node, N_Put, N_String]))
    obtain ⟨r10, hr10, h⟩ := bnd_out h
    refine CallK.introE rfl rfl (r_iHomesOf hr10) ?_
    clear hr10
    cbv; try simp only [F, F2, N0, N_Branch, N_Event, N_Node, N_Put, N_String]
    repeat (first | (refine regD.rest 6 ?_; cbv; try simp only [F, F2, N0, N_Branch, N_Event, N_Node, N_Put, N_String]) | (refine awD.rest ?_; cbv; try simp only [F, F2, N0, N_Branch, N_Event, N_Node, N_Put, N_String]))
    obtain ⟨r11, hr11, h⟩ := bnd_out h
    refine CallK.introE rfl rfl (r_iHomesOf hr11) ?_
    clear hr11
    cbv; try simp only [F, F2, N0, N_Branch, N_Event, N_Node, N_Put, N_String]
    repeat (first | (refine regD.rest 6 ?_; cbv; try simp only [F, F2, N0, N_Branch, N_Event, N_Node, N_Put, N_String]) | (refine awD.rest ?_; cbv; try simp only [F, F2, N0, N_Branch, N_Event, N_Node, N_Put, N_String]))
    split
    · rename_i q18; simp only [q18, cond_true] at h ⊢
      cbv; try simp only [F, F2, N0, N_Branch, N_Event, N_Node, N_Put, N_String]
      repeat (first | (refine regD.rest 6 ?_; cbv; try simp only [F, F2, N0, N_Branch, N_Event, N_Node, N_Put, N_String]) | (refine awD.rest ?_; cbv; try simp only [F, F2, N0, N_Branch, N_Event, N_Node, N_Put, N_String]))
      obtain rfl := Option.some.inj h
      first | exact LeV.to rfl (LeF.nr _ _ _) | (simp only [rows_nil, bys_n]; exact LeV.to rfl (LeF.nr _ _ _))
    · rename_i q18; simp only [q18, cond_false] at h ⊢
      cbv; try simp only [F, F2, N0, N_Branch, N_Event, N_Node, N_Put, N_String]
      repeat (first | (refine regD.rest 6 ?_; cbv; try simp only [F, F2, N0, N_Branch, N_Event, N_Node, N_Put, N_String]) | (refine awD.rest ?_; cbv; try simp only [F, F2, N0, N_Branch, N_Event, N_Node, N_Put, N_String]))
      obtain ⟨r15, hr15, h⟩ := bnd_out h
      refine CallK.introE rfl rfl (r_iHomesOf hr15) ?_
      clear hr15
      cbv; try simp only [F, F2, N0, N_Branch, N_Event, N_Node, N_Put, N_String]
      repeat (first | (refine regD.rest 6 ?_; cbv; try simp only [F, F2, N0, N_Branch, N_Event, N_Node, N_Put, N_String]) | (refine awD.rest ?_; cbv; try simp only [F, F2, N0, N_Branch, N_Event, N_Node, N_Put, N_String]))
      obtain ⟨r16, hr16, h⟩ := bnd_out h
      refine CallK.introE rfl rfl (r_iDiff hr16) ?_
      clear hr16
      cbv; try simp only [F, F2, N0, N_Branch, N_Event, N_Node, N_Put, N_String]
      repeat (first | (refine regD.rest 6 ?_; cbv; try simp only [F, F2, N0, N_Branch, N_Event, N_Node, N_Put, N_String]) | (refine awD.rest ?_; cbv; try simp only [F, F2, N0, N_Branch, N_Event, N_Node, N_Put, N_String]))
      obtain ⟨r17, hr17, h⟩ := bnd_out h
      refine CallK.introE rfl rfl (r_iCommit hr17) ?_
      clear hr17
      cbv; try simp only [F, F2, N0, N_Branch, N_Event, N_Node, N_Put, N_String]
      repeat (first | (refine regD.rest 6 ?_; cbv; try simp only [F, F2, N0, N_Branch, N_Event, N_Node, N_Put, N_String]) | (refine awD.rest ?_; cbv; try simp only [F, F2, N0, N_Branch, N_Event, N_Node, N_Put, N_String]))
      obtain rfl := Option.some.inj h
      first | exact LeV.to rfl (LeF.rfl' _) | (simp only [rows_nil, bys_n]; exact LeV.to rfl (LeF.rfl' _))
theorem r_sDiff {a0 : FsD} {a1 : FsD} {r : (List PutD)} (h : sDiff a0 a1 = some r) : Ret pg 58 true [.ag (fsC a0), .ag (fsC a1)] [] (.sl .own 2 (rows putR r)) := by
  unfold sDiff at h
  refine retD 8 3 [(9, [⟨true, [], [26]⟩, ⟨true, [], [27]⟩, ⟨false, [30, 31, 32, 33], [28]⟩, ⟨false, [30, 31, 32, 33], [29]⟩, ⟨false, [28, 29], [30]⟩, ⟨false, [28, 29], [31]⟩, ⟨false, [28, 29], [32]⟩, ⟨false, [28, 29], [33]⟩, ⟨true, [], [34]⟩])] (.s .o (.s .o (.s .o (.s .o (.s .o (.k .o .o)))))) Try.func58 rfl (by decide +kernel) (by decide +kernel) rfl ⟨rfl, own_putS _⟩ ?_
  cbv; try simp only [F, F2, N0, N_Node, N_Put, N_String]
  repeat (first | (refine regD.rest 6 ?_; cbv; try simp only [F, F2, N0, N_Node, N_Put, N_String]) | (refine awD.rest ?_; cbv; try simp only [F, F2, N0, N_Node, N_Put, N_String]))
  obtain ⟨r2, hr2, h⟩ := bnd_out h
  refine CallK.introE rfl rfl (r_sFsBlocks hr2) ?_
  clear hr2
  cbv; try simp only [F, F2, N0, N_Node, N_Put, N_String]
  repeat (first | (refine regD.rest 6 ?_; cbv; try simp only [F, F2, N0, N_Node, N_Put, N_String]) | (refine awD.rest ?_; cbv; try simp only [F, F2, N0, N_Node, N_Put, N_String]))
  obtain ⟨r4, hr4, h⟩ := bnd_out h
  refine CallK.introE rfl rfl (r_sFsBlocks hr4) ?_
  clear hr4
  cbv; try simp only [F, F2, N0, N_Node, N_Put, N_String]
  repeat (first | (refine regD.rest 6 ?_; cbv; try simp only [F, F2, N0, N_Node, N_Put, N_String]) | (refine awD.rest ?_; cbv; try simp only [F, F2, N0, N_Node, N_Put, N_String]))
  split
  · rename_i q28; simp only [q28, cond_true] at h ⊢
    cbv; try simp only [F, F2, N0, N_Node, N_Put, N_String]
    repeat (first | (refine regD.rest 6 ?_; cbv; try simp only [F, F2, N0, N_Node, N_Put, N_String]) | (refine awD.rest ?_; cbv; try simp only [F, F2, N0, N_Node, N_Put, N_String]))
    obtain rfl := Option.some.inj h
    first | exact LeV.to rfl (LeF.rfl' _) | (simp only [rows_nil, bys_n]; exact LeV.to rfl (LeF.rfl' _))
  · rename_i q28; simp only [q28, cond_false] at h ⊢
    cbv; try simp only [F, F2, N0, N_Node, N_Put, N_String]
    repeat (first | (refine regD.rest 6 ?_; cbv; try simp only [F, F2, N0, N_Node, N_Put, N_String]) | (refine awD.rest ?_; cbv; try simp only [F, F2, N0, N_Node, N_Put, N_String]))
    obtain ⟨o16, ho16, h⟩ := bnd_out h
    refine CutK.intro (α := (List PutD)) [5] [] (fun a => [(5, .sl .own 2 (rows putR a))]) (fun a => []) (fun a => a = o16) ?_ ?_
    · cbv; try simp only [F, F2, N0, N_Node, N_Put, N_String]
      repeat (first | (refine regD.rest 6 ?_; cbv; try simp only [F, F2, N0, N_Node, N_Put, N_String]) | (refine awD.rest ?_; cbv; try simp only [F, F2, N0, N_Node, N_Put, N_String]))
      refine LoopR (σ := (List PutD) × Int) ho16 [5, 6, 7, 8] [] (fun a => [(5, .sl .own 2 (rows putR a.1)), (8, .i .i64 a.2)]) (fun a => []) (by first | rfl | (simp only [rows_nil, bys_n]; rfl)) fun _ s22 xs22 hs22 bs22 es22 => ?_
      obtain ⟨s22_0, s22_1⟩ := s22
      try dsimp only at hs22
      cbv; try simp only [F, F2, N0, N_Node, N_Put, N_String]
      repeat (first | (refine regD.rest 6 ?_; cbv; try simp only [F, F2, N0, N_Node, N_Put, N_String]) | (refine awD.rest ?_; cbv; try simp only [F, F2, N0, N_Node, N_Put, N_String]))
      split
      · rename_i q27; simp only [q27, cond_true] at hs22 ⊢
        cbv; try simp only [F, F2, N0, N_Node, N_Put, N_String]
        repeat (first | (refine regD.rest 6 ?_; cbv; try simp only [F, F2, N0, N_Node, N_Put, N_String]) | (refine awD.rest ?_; cbv; try simp only [F, F2, N0, N_Node, N_Put, N_String]))
        obtain ⟨y23, hy23, hs22⟩ := bnd_out hs22
        refine ⟨gt_in hy23, ?_⟩
        repeat (first | (refine regD.rest 6 ?_; cbv; try simp only [F, F2, N0, N_Node, N_Put, N_String]) | (refine awD.rest ?_; cbv; try simp only [F, F2, N0, N_Node, N_Put, N_String]))
        refine ⟨_, gt_at _ hy23, ?_⟩
        cbv; try simp only [F, F2, N0, N_Node, N_Put, N_String]
        repeat (first | (refine regD.rest 6 ?_; cbv; try simp only [F, F2, N0, N_Node, N_Put, N_String]) | (refine awD.rest ?_; cbv; try simp only [F, F2, N0, N_Node, N_Put, N_String]))
        obtain ⟨y24, hy24, hs22⟩ := bnd_out hs22
        refine ⟨gt_in hy24, ?_⟩
        repeat (first | (refine regD.rest 6 ?_; cbv; try simp only [F, F2, N0, N_Node, N_Put, N_String]) | (refine awD.rest ?_; cbv; try simp only [F, F2, N0, N_Node, N_Put, N_String]))
        refine ⟨_, gt_at _ hy24, ?_⟩
        cbv; try simp only [F, F2, N0, N_Node, N_Put, N_String]
        repeat (first | (refine regD.rest 6 ?_; cbv; try simp only [F, F2, N0, N_Node, N_Put, N_String]) | (refine awD.rest ?_; cbv; try simp only [F, F2, N0, N_Node, N_Put, N_String]))
        split
        · rename_i q26; simp only [q26, cond_true] at hs22 ⊢
          cbv; try simp only [F, F2, N0, N_Node, N_Put, N_String]
          repeat (first | (refine regD.rest 6 ?_; cbv; try simp only [F, F2, N0, N_Node, N_Put, N_String]) | (refine awD.rest ?_; cbv; try simp only [F, F2, N0, N_Node, N_Put, N_String]))
          refine ⟨gt_in hy24, ?_⟩
          repeat (first | (refine regD.rest 6 ?_; cbv; try simp only [F, F2, N0, N_Node, N_Put, N_String]) | (refine awD.rest ?_; cbv; try simp only [F, F2, N0, N_Node, N_Put, N_String]))
          refine ⟨_, gt_at _ hy24, ?_⟩
          cbv; try simp only [F, F2, N0, N_Node, N_Put, N_String]
          repeat (first | (refine regD.rest 6 ?_; cbv; try simp only [F, F2, N0, N_Node, N_Put, N_String]) | (refine awD.rest ?_; cbv; try simp only [F, F2, N0, N_Node, N_Put, N_String]))
          obtain ⟨c25, hs22⟩ := ck_out hs22
          refine ⟨c25, ?_⟩
          repeat (first | (refine regD.rest 6 ?_; cbv; try simp only [F, F2, N0, N_Node, N_Put, N_String]) | (refine awD.rest ?_; cbv; try simp only [F, F2, N0, N_Node, N_Put, N_String]))
          obtain rfl := Option.some.inj hs22
          first | exact ⟨_, bs22 _ rfl, rfl⟩ | (refine ⟨_, bs22 _ rfl, ?_⟩; simp only [rows_nil, bys_n]; rfl)
        · rename_i q26; simp only [q26, cond_false] at hs22 ⊢
          cbv; try simp only [F, F2, N0, N_Node, N_Put, N_String]
          repeat (first | (refine regD.rest 6 ?_; cbv; try simp only [F, F2, N0, N_Node, N_Put, N_String]) | (refine awD.rest ?_; cbv; try simp only [F, F2, N0, N_Node, N_Put, N_String]))
          obtain rfl := Option.some.inj hs22
          first | exact ⟨_, bs22 _ rfl, rfl⟩ | (refine ⟨_, bs22 _ rfl, ?_⟩; simp only [rows_nil, bys_n]; rfl)
      · rename_i q27; simp only [q27, cond_false] at hs22 ⊢
        cbv; try simp only [F, F2, N0, N_Node, N_Put, N_String]
        repeat (first | (refine regD.rest 6 ?_; cbv; try simp only [F, F2, N0, N_Node, N_Put, N_String]) | (refine awD.rest ?_; cbv; try simp only [F, F2, N0, N_Node, N_Put, N_String]))
        obtain rfl := Option.some.inj hs22
        replace ho16 := congrArg some (es22 _ rfl)
        obtain rfl := Option.some.inj ho16
        first | exact ⟨_, rfl, rfl⟩ | (refine ⟨_, rfl, ?_⟩; simp only [rows_nil, bys_n]; rfl)
    · rintro a17 rfl
      clear ho16
      cbv; try simp only [F, F2, N0, N_Node, N_Put, N_String]
      repeat (first | (refine regD.rest 6 ?_; cbv; try simp only [F, F2, N0, N_Node, N_Put, N_String]) | (refine awD.rest ?_; cbv; try simp only [F, F2, N0, N_Node, N_Put, N_String]))
      obtain rfl := Option.some.inj h
      first | exact LeV.to rfl (LeF.rfl' _) | (simp only [rows_nil, bys_n]; exact LeV.to rfl (LeF.rfl' _))
theorem r_sl3PutsOk {a0 : List PutD} {a1 : Int} {r : Bool} (h : sl3PutsOk a0 a1 = some r) : Ret pg 113 true [.sl .shr 2 (rows putR a0), .i .i64 a1] [] (.b r) := by
  unfold sl3PutsOk at h
  refine retD 1000 1000 [] (.s .o (.k .o .o)) Try.func113 rfl (by decide +kernel) (by decide +kernel) rfl trivial ?_
  cbv; try simp only [F, F2, N0, N_Put]
  obtain ⟨o12, ho12, h⟩ := bnd_out h
  refine CutK.intro (α := Unit) [] [] (fun a => []) (fun a => []) (fun a => (Sum.inl a : _ ⊕ _) = o12) ?_ ?_
  · cbv; try simp only [F, F2, N0, N_Put]
    refine LoopR (σ := Int) ho12 [0, 1, 5] [] (fun a => [(5, .i .i64 a)]) (fun a => []) (by first | rfl | (simp only [rows_nil, bys_n]; rfl)) fun _ s18 xs18 hs18 bs18 es18 => ?_
    cbv; try simp only [F, F2, N0, N_Put]
    split
    · rename_i q22; simp only [q22, cond_true] at hs18 ⊢
      cbv; try simp only [F, F2, N0, N_Put]
      obtain ⟨y19, hy19, hs18⟩ := bnd_out hs18
      refine ⟨gt_in hy19, ?_⟩
      refine ⟨_, gt_at _ hy19, ?_⟩
      cbv; try simp only [F, F2, N0, N_Put]
      obtain ⟨r20, hr20, hs18⟩ := bnd_out hs18
      refine CallK.introE rfl rfl (r_sl1In hr20) ?_
      clear hr20
      cbv; try simp only [F, F2, N0, N_Put]
      cases r20
      · simp only [cond_false] at hs18
        cbv; try simp only [F, F2, N0, N_Put]
        obtain rfl := Option.some.inj hs18
        replace ho12 := congrArg some (es18 _ rfl)
        obtain rfl := Option.some.inj ho12
        simp only [Sum.elim_inr] at h
        obtain rfl := Option.some.inj h
        first | exact LeV.to rfl (LeF.rfl' _) | (simp only [rows_nil, bys_n]; exact LeV.to rfl (LeF.rfl' _))
      · simp only [cond_true] at hs18
        cbv; try simp only [F, F2, N0, N_Put]
        refine ⟨gt_in hy19, ?_⟩
        refine ⟨_, gt_at _ hy19, ?_⟩
        cbv; try simp only [F, F2, N0, N_Put]
        split
        · rename_i q21; simp only [q21, cond_true] at hs18 ⊢
          cbv; try simp only [F, F2, N0, N_Put]
          obtain rfl := Option.some.inj hs18
          replace ho12 := congrArg some (es18 _ rfl)
          obtain rfl := Option.some.inj ho12
          simp only [Sum.elim_inr] at h
          obtain rfl := Option.some.inj h
          first | exact LeV.to rfl (LeF.rfl' _) | (simp only [rows_nil, bys_n]; exact LeV.to rfl (LeF.rfl' _))
        · rename_i q21; simp only [q21, cond_false] at hs18 ⊢
          cbv; try simp only [F, F2, N0, N_Put]
          obtain rfl := Option.some.inj hs18
          first | exact ⟨_, bs18 _ rfl, rfl⟩ | (refine ⟨_, bs18 _ rfl, ?_⟩; simp only [rows_nil, bys_n]; rfl)
    · rename_i q22; simp only [q22, cond_false] at hs18 ⊢
      cbv; try simp only [F, F2, N0, N_Put]
      obtain rfl := Option.some.inj hs18
      replace ho12 := congrArg some (es18 _ rfl)
      obtain rfl := Option.some.inj ho12
      first | exact ⟨_, rfl, rfl⟩ | (refine ⟨_, rfl, ?_⟩; simp only [rows_nil, bys_n]; rfl)
  · rintro a13 rfl
    clear ho12
    simp only [Sum.elim_inl] at h
    cbv; try simp only [F, F2, N0, N_Put]
    obtain rfl := Option.some.inj h
    first | exact LeV.to rfl (LeF.rfl' _) | (simp only [rows_nil, bys_n]; exact LeV.to rfl (LeF.rfl' _))
theorem r_sTxOk {a0 : Int} {a1 : List PutD} {r : Bool} (h : sTxOk a0 a1 = some r) : Ret pg 91 true [.i .i64 a0, .sl .shr 2 (rows putR a1)] [] (.b r) := by
  unfold sTxOk at h
  refine retD 8 3 [(6, [⟨true, [], [26]⟩, ⟨true, [], [27]⟩, ⟨false, [31, 32, 33, 34, 35, 36], [28]⟩, ⟨false, [31, 32, 33, 34, 35, 36], [29]⟩, ⟨false, [31, 32, 33, 34, 35, 36], [30]⟩, ⟨false, [28, 29, 30], [31]⟩, ⟨false, [28, 29, 30], [32]⟩, ⟨false, [28, 29, 30], [33]⟩, ⟨false, [28, 29, 30], [34]⟩, ⟨false, [28, 29, 30], [35]⟩, ⟨false, [28, 29, 30], [36]⟩, ⟨true, [], [37]⟩])] (.s .o (.s .o (.k .o .o))) Try.func91 rfl (by decide +kernel) (by decide +kernel) rfl trivial ?_
  cbv; try simp only [F, F2, N0, N_Put]
  repeat (first | (refine regD.rest 6 ?_; cbv; try simp only [F, F2, N0, N_Put]) | (refine awD.rest ?_; cbv; try simp only [F, F2, N0, N_Put]))
  obtain ⟨r5, hr5, h⟩ := bnd_out h
  refine CallK.introE rfl rfl (r_sl1In hr5) ?_
  clear hr5
  cbv; try simp only [F, F2, N0, N_Put]
  repeat (first | (refine regD.rest 6 ?_; cbv; try simp only [F, F2, N0, N_Put]) | (refine awD.rest ?_; cbv; try simp only [F, F2, N0, N_Put]))
  cases r5
  · simp only [cond_false] at h
    cbv; try simp only [F, F2, N0, N_Put]
    repeat (first | (refine regD.rest 6 ?_; cbv; try simp only [F, F2, N0, N_Put]) | (refine awD.rest ?_; cbv; try simp only [F, F2, N0, N_Put]))
    obtain rfl := Option.some.inj h
    first | exact LeV.to rfl (LeF.rfl' _) | (simp only [rows_nil, bys_n]; exact LeV.to rfl (LeF.rfl' _))
  · simp only [cond_true] at h
    cbv; try simp only [F, F2, N0, N_Put]
    repeat (first | (refine regD.rest 6 ?_; cbv; try simp only [F, F2, N0, N_Put]) | (refine awD.rest ?_; cbv; try simp only [F, F2, N0, N_Put]))
    split
    · rename_i q29; simp only [q29, cond_true] at h ⊢
      cbv; try simp only [F, F2, N0, N_Put]
      repeat (first | (refine regD.rest 6 ?_; cbv; try simp only [F, F2, N0, N_Put]) | (refine awD.rest ?_; cbv; try simp only [F, F2, N0, N_Put]))
      obtain rfl := Option.some.inj h
      first | exact LeV.to rfl (LeF.rfl' _) | (simp only [rows_nil, bys_n]; exact LeV.to rfl (LeF.rfl' _))
    · rename_i q29; simp only [q29, cond_false] at h ⊢
      cbv; try simp only [F, F2, N0, N_Put]
      repeat (first | (refine regD.rest 6 ?_; cbv; try simp only [F, F2, N0, N_Put]) | (refine awD.rest ?_; cbv; try simp only [F, F2, N0, N_Put]))
      obtain ⟨r6, hr6, h⟩ := bnd_out h
      refine CallK.introE rfl rfl (r_sl3PutsOk hr6) ?_
      clear hr6
      cbv; try simp only [F, F2, N0, N_Put]
      repeat (first | (refine regD.rest 6 ?_; cbv; try simp only [F, F2, N0, N_Put]) | (refine awD.rest ?_; cbv; try simp only [F, F2, N0, N_Put]))
      cases r6
      · simp only [cond_false] at h
        cbv; try simp only [F, F2, N0, N_Put]
        repeat (first | (refine regD.rest 6 ?_; cbv; try simp only [F, F2, N0, N_Put]) | (refine awD.rest ?_; cbv; try simp only [F, F2, N0, N_Put]))
        obtain rfl := Option.some.inj h
        first | exact LeV.to rfl (LeF.rfl' _) | (simp only [rows_nil, bys_n]; exact LeV.to rfl (LeF.rfl' _))
      · simp only [cond_true] at h
        cbv; try simp only [F, F2, N0, N_Put]
        repeat (first | (refine regD.rest 6 ?_; cbv; try simp only [F, F2, N0, N_Put]) | (refine awD.rest ?_; cbv; try simp only [F, F2, N0, N_Put]))
        obtain ⟨o18, ho18, h⟩ := bnd_out h
        refine CutK.intro (α := Unit) [] [] (fun a => []) (fun a => []) (fun a => (Sum.inl a : _ ⊕ _) = o18) ?_ ?_
        · cbv; try simp only [F, F2, N0, N_Put]
          repeat (first | (refine regD.rest 6 ?_; cbv; try simp only [F, F2, N0, N_Put]) | (refine awD.rest ?_; cbv; try simp only [F, F2, N0, N_Put]))
          refine LoopR (σ := Int) ho18 [1, 5] [] (fun a => [(5, .i .i64 a)]) (fun a => []) (by first | rfl | (simp only [rows_nil, bys_n]; rfl)) fun _ s24 xs24 hs24 bs24 es24 => ?_
          cbv; try simp only [F, F2, N0, N_Put]
          repeat (first | (refine regD.rest 6 ?_; cbv; try simp only [F, F2, N0, N_Put]) | (refine awD.rest ?_; cbv; try simp only [F, F2, N0, N_Put]))
          split
          · rename_i q28; simp only [q28, cond_true] at hs24 ⊢
            cbv; try simp only [F, F2, N0, N_Put]
            repeat (first | (refine regD.rest 6 ?_; cbv; try simp only [F, F2, N0, N_Put]) | (refine awD.rest ?_; cbv; try simp only [F, F2, N0, N_Put]))
            obtain ⟨y25, hy25, hs24⟩ := bnd_out hs24
            refine ⟨gt_in hy25, ?_⟩
            repeat (first | (refine regD.rest 6 ?_; cbv; try simp only [F, F2, N0, N_Put]) | (refine awD.rest ?_; cbv; try simp only [F, F2, N0, N_Put]))
            refine ⟨_, gt_at _ hy25, ?_⟩
            cbv; try simp only [F, F2, N0, N_Put]
            repeat (first | (refine regD.rest 6 ?_; cbv; try simp only [F, F2, N0, N_Put]) | (refine awD.rest ?_; cbv; try simp only [F, F2, N0, N_Put]))
            obtain ⟨y26, hy26, hs24⟩ := bnd_out hs24
            refine ⟨gt_in hy26, ?_⟩
            repeat (first | (refine regD.rest 6 ?_; cbv; try simp only [F, F2, N0, N_Put]) | (refine awD.rest ?_; cbv; try simp only [F, F2, N0, N_Put]))
            refine ⟨_, gt_at _ hy26, ?_⟩
            cbv; try simp only [F, F2, N0, N_Put]
            repeat (first | (refine regD.rest 6 ?_; cbv; try simp only [F, F2, N0, N_Put]) | (refine awD.rest ?_; cbv; try simp only [F, F2, N0, N_Put]))
            split
            · rename_i q27; simp only [q27, cond_true] at hs24 ⊢
              cbv; try simp only [F, F2, N0, N_Put]
              repeat (first | (refine regD.rest 6 ?_; cbv; try simp only [F, F2, N0, N_Put]) | (refine awD.rest ?_; cbv; try simp only [F, F2, N0, N_Put]))
              obtain rfl := Option.some.inj hs24
              replace ho18 := congrArg some (es24 _ rfl)
              obtain rfl := Option.some.inj ho18
              simp only [Sum.elim_inr] at h
              obtain rfl := Option.some.inj h
              first | exact LeV.to rfl (LeF.rfl' _) | (simp only [rows_nil, bys_n]; exact LeV.to rfl (LeF.rfl' _))
            · rename_i q27; simp only [q27, cond_false] at hs24 ⊢
              cbv; try simp only [F, F2, N0, N_Put]
              repeat (first | (refine regD.rest 6 ?_; cbv; try simp only [F, F2, N0, N_Put]) | (refine awD.rest ?_; cbv; try simp only [F, F2, N0, N_Put]))
              obtain rfl := Option.some.inj hs24
              first | exact ⟨_, bs24 _ rfl, rfl⟩ | (refine ⟨_, bs24 _ rfl, ?_⟩; simp only [rows_nil, bys_n]; rfl)
          · rename_i q28; simp only [q28, cond_false] at hs24 ⊢
            cbv; try simp only [F, F2, N0, N_Put]
            repeat (first | (refine regD.rest 6 ?_; cbv; try simp only [F, F2, N0, N_Put]) | (refine awD.rest ?_; cbv; try simp only [F, F2, N0, N_Put]))
            obtain rfl := Option.some.inj hs24
            replace ho18 := congrArg some (es24 _ rfl)
            obtain rfl := Option.some.inj ho18
            first | exact ⟨_, rfl, rfl⟩ | (refine ⟨_, rfl, ?_⟩; simp only [rows_nil, bys_n]; rfl)
        · rintro a19 rfl
          clear ho18
          simp only [Sum.elim_inl] at h
          cbv; try simp only [F, F2, N0, N_Put]
          repeat (first | (refine regD.rest 6 ?_; cbv; try simp only [F, F2, N0, N_Put]) | (refine awD.rest ?_; cbv; try simp only [F, F2, N0, N_Put]))
          obtain rfl := Option.some.inj h
          first | exact LeV.to rfl (LeF.rfl' _) | (simp only [rows_nil, bys_n]; exact LeV.to rfl (LeF.rfl' _))
theorem r_sl4Event {a0 : Int} {a1 : List UInt8} {r : EventD} (h : sl4Event a0 a1 = some r) : Ret pg 92 true [.i .i64 a0, .s a1] [] (.ag (eventR r)) := by
  unfold sl4Event at h
  refine retD 1000 1000 [] .o Try.func92 rfl (by decide +kernel) (by decide +kernel) rfl (own_eventR _) ?_
  cbv; try simp only [F, F2, N0]
  obtain rfl := Option.some.inj h
  first | exact LeV.to rfl (LeF.rfl' _) | (simp only [rows_nil, bys_n]; exact LeV.to rfl (LeF.rfl' _))
theorem r_sPutText {a0 : List UInt8} {r : (List UInt8)} (h : sPutText a0 = some r) : Ret pg 128 true [.s a0] [] (.sl .own 1 (bys r)) := by
  unfold sPutText at h
  refine retD 1000 1000 [] .o Try.func128 rfl (by decide +kernel) (by decide +kernel) rfl ⟨rfl, own_bysS _⟩ ?_
  cbv; try simp only [F, F2, N0, N_Byte]
  obtain ⟨r2, hr2, h⟩ := bnd_out h
  refine CallK.introE rfl rfl (r_sPutNum hr2) ?_
  clear hr2
  cbv; try simp only [F, F2, N0, N_Byte]
  obtain ⟨c4, h⟩ := ck_out h
  refine ⟨c4, ?_⟩
  obtain ⟨c3, h⟩ := ck_out h
  refine ⟨c3, ?_⟩
  obtain rfl := Option.some.inj h
  first | exact LeV.to rfl (LeF.rfl' _) | (simp only [rows_nil, bys_n]; exact LeV.to rfl (LeF.rfl' _))
theorem r_sCrc {a0 : List UInt8} {r : Int} (h : sCrc a0 = some r) : Ret pg 129 true [.sl .shr 1 (bys a0)] [] (.i .i64 r) := by
  unfold sCrc at h
  refine retD 1000 1000 [] (.s .o (.s .o (.k (.s .o (.s (.s (.s .o (.k .o .o)) .o) .o)) .o))) Try.func129 rfl (by decide +kernel) (by decide +kernel) rfl trivial ?_
  cbv; try simp only [F, F2, N0, N_Byte]
  obtain ⟨o15, ho15, h⟩ := bnd_out h
  refine CutK.intro (α := Int) [3] [] (fun a => [(3, .i .i64 a)]) (fun a => []) (fun a => a = o15) ?_ ?_
  · cbv; try simp only [F, F2, N0, N_Byte]
    refine LoopR (σ := Int × Int) ho15 [0, 3, 4] [] (fun a => [(3, .i .i64 a.1), (4, .i .i64 a.2)]) (fun a => []) (by first | rfl | (simp only [rows_nil, bys_n]; rfl)) fun _ s25 xs25 hs25 bs25 es25 => ?_
    obtain ⟨s25_0, s25_1⟩ := s25
    try dsimp only at hs25
    cbv; try simp only [F, F2, N0, N_Byte]
    split
    · rename_i q34; simp only [q34, cond_true] at hs25 ⊢
      cbv; try simp only [F, F2, N0, N_Byte]
      obtain ⟨o28, ho28, hs25⟩ := bnd_out hs25
      refine CutK.intro (α := Int) [0, 3, 4] [] (fun a => [(3, .i .i64 a)]) (fun a => []) (fun a => a = o28) ?_ ?_
      · cbv; try simp only [F, F2, N0, N_Byte]
        obtain ⟨y30, hy30, ho28⟩ := bnd_out ho28
        refine ⟨gt_in hy30, ?_⟩
        refine ⟨_, gt_ab hy30, ?_⟩
        cbv; try simp only [F, F2, N0, N_Byte]
        refine LoopR (σ := Int × Int) ho28 [0, 3, 4, 5] [] (fun a => [(3, .i .i64 a.1), (5, .i .i64 a.2)]) (fun a => []) (by first | rfl | (simp only [rows_nil, bys_n]; rfl)) fun _ s31 xs31 hs31 bs31 es31 => ?_
        obtain ⟨s31_0, s31_1⟩ := s31
        try dsimp only at hs31
        cbv; try simp only [F, F2, N0, N_Byte]
        split
        · rename_i q33; simp only [q33, cond_true] at hs31 ⊢
          cbv; try simp only [F, F2, N0, N_Byte]
          refine ⟨by rw [icmp_neq]; rfl, ?_⟩
          refine ⟨by rw [icmp_neq]; rfl, ?_⟩
          split
          · rename_i q32; simp only [q32, cond_true] at hs31 ⊢
            cbv; try simp only [F, F2, N0, N_Byte]
            obtain rfl := Option.some.inj hs31
            first | exact ⟨_, bs31 _ rfl, rfl⟩ | (refine ⟨_, bs31 _ rfl, ?_⟩; simp only [rows_nil, bys_n]; rfl)
          · rename_i q32; simp only [q32, cond_false] at hs31 ⊢
            cbv; try simp only [F, F2, N0, N_Byte]
            obtain rfl := Option.some.inj hs31
            first | exact ⟨_, bs31 _ rfl, rfl⟩ | (refine ⟨_, bs31 _ rfl, ?_⟩; simp only [rows_nil, bys_n]; rfl)
        · rename_i q33; simp only [q33, cond_false] at hs31 ⊢
          cbv; try simp only [F, F2, N0, N_Byte]
          obtain rfl := Option.some.inj hs31
          replace ho28 := congrArg some (es31 _ rfl)
          obtain rfl := Option.some.inj ho28
          first | exact ⟨_, rfl, rfl⟩ | (refine ⟨_, rfl, ?_⟩; simp only [rows_nil, bys_n]; rfl)
      · rintro a29 rfl
        clear ho28
        cbv; try simp only [F, F2, N0, N_Byte]
        obtain rfl := Option.some.inj hs25
        first | exact ⟨_, bs25 _ rfl, rfl⟩ | (refine ⟨_, bs25 _ rfl, ?_⟩; simp only [rows_nil, bys_n]; rfl)
    · rename_i q34; simp only [q34, cond_false] at hs25 ⊢
      cbv; try simp only [F, F2, N0, N_Byte]
      obtain rfl := Option.some.inj hs25
      replace ho15 := congrArg some (es25 _ rfl)
      obtain rfl := Option.some.inj ho15
      first | exact ⟨_, rfl, rfl⟩ | (refine ⟨_, rfl, ?_⟩; simp only [rows_nil, bys_n]; rfl)
  · rintro a16 rfl
    clear ho15
    cbv; try simp only [F, F2, N0, N_Byte]
    obtain rfl := Option.some.inj h
    first | exact LeV.to rfl (LeF.rfl' _) | (simp only [rows_nil, bys_n]; exact LeV.to rfl (LeF.rfl' _))
theorem r_sl4Sum {a0 : List (List UInt8)} {r : Int} (h : sl4Sum a0 = some r) : Ret pg 115 true [.sl .shr 1 (rows strR a0)] [] (.i .i64 r) := by
  unfold sl4Sum at h
  refine retD 1000 1000 [] (.s .o (.s .o (.k .o .o))) Try.func115 rfl (by decide +kernel) (by decide +kernel) rfl trivial ?_
  cbv; try simp only [F, F2, N0, N_Byte, N_String]
  obtain ⟨o10, ho10, h⟩ := bnd_out h
  refine CutK.intro (α := (List UInt8)) [3] [] (fun a => [(3, .sl .own 1 (bys a))]) (fun a => []) (fun a => a = o10) ?_ ?_
  · cbv; try simp only [F, F2, N0, N_Byte, N_String]
    refine LoopR (σ := (List UInt8) × Int) ho10 [0, 3, 4] [] (fun a => [(3, .sl .own 1 (bys a.1)), (4, .i .i64 a.2)]) (fun a => []) (by first | rfl | (simp only [rows_nil, bys_n]; rfl)) fun _ s18 xs18 hs18 bs18 es18 => ?_
    obtain ⟨s18_0, s18_1⟩ := s18
    try dsimp only at hs18
    cbv; try simp only [F, F2, N0, N_Byte, N_String]
    split
    · rename_i q22; simp only [q22, cond_true] at hs18 ⊢
      cbv; try simp only [F, F2, N0, N_Byte, N_String]
      obtain ⟨y19, hy19, hs18⟩ := bnd_out hs18
      refine ⟨gt_in hy19, ?_⟩
      refine ⟨_, gt_at _ hy19, ?_⟩
      cbv; try simp only [F, F2, N0, N_Byte, N_String]
      obtain ⟨r20, hr20, hs18⟩ := bnd_out hs18
      refine CallK.introE rfl rfl (r_sPutText hr20) ?_
      clear hr20
      cbv; try simp only [F, F2, N0, N_Byte, N_String]
      obtain ⟨c21, hs18⟩ := ck_out hs18
      refine ⟨c21, ?_⟩
      obtain rfl := Option.some.inj hs18
      first | exact ⟨_, bs18 _ rfl, rfl⟩ | (refine ⟨_, bs18 _ rfl, ?_⟩; simp only [rows_nil, bys_n]; rfl)
    · rename_i q22; simp only [q22, cond_false] at hs18 ⊢
      cbv; try simp only [F, F2, N0, N_Byte, N_String]
      obtain rfl := Option.some.inj hs18
      replace ho10 := congrArg some (es18 _ rfl)
      obtain rfl := Option.some.inj ho10
      first | exact ⟨_, rfl, rfl⟩ | (refine ⟨_, rfl, ?_⟩; simp only [rows_nil, bys_n]; rfl)
  · rintro a11 rfl
    clear ho10
    cbv; try simp only [F, F2, N0, N_Byte, N_String]
    obtain ⟨r13, hr13, h⟩ := bnd_out h
    refine CallK.introE rfl rfl (r_sCrc hr13) ?_
    clear hr13
    cbv; try simp only [F, F2, N0, N_Byte, N_String]
    obtain rfl := Option.some.inj h
    first | exact LeV.to rfl (LeF.rfl' _) | (simp only [rows_nil, bys_n]; exact LeV.to rfl (LeF.rfl' _))
theorem r_sl4Four {a0 : Int} {r : (List UInt8)} (h : sl4Four a0 = some r) : Ret pg 127 true [.i .i64 a0] [] (.s r) := by
  unfold sl4Four at h
  refine retD 1000 1000 [] .o Try.func127 rfl (by decide +kernel) (by decide +kernel) rfl trivial ?_
  cbv; try simp only [F, F2, N0, N_Byte]
  refine ⟨by rw [icmp_neq]; rfl, ?_⟩
  refine ⟨by rw [icmp_neq]; rfl, ?_⟩
  refine ⟨by rw [icmp_neq]; rfl, ?_⟩
  refine ⟨by rw [icmp_neq]; rfl, ?_⟩
  refine ⟨by rw [icmp_neq]; rfl, ?_⟩
  refine ⟨by rw [icmp_neq]; rfl, ?_⟩
  obtain rfl := Option.some.inj h
  first | exact LeV.to rfl (LeF.rfl' _) | (simp only [rows_nil, bys_n]; exact LeV.to rfl (LeF.rfl' _))
theorem r_sl4Head {a0 : List Int} {a1 : Int} {r : (List UInt8)} (h : sl4Head a0 a1 = some r) : Ret pg 114 true [.sl .shr 1 (rows intR a0), .i .i64 a1] [] (.s r) := by
  unfold sl4Head at h
  refine retD 8 3 [(6, [⟨true, [], [25]⟩, ⟨false, [27, 28], [26]⟩, ⟨false, [26], [27]⟩, ⟨false, [26], [28]⟩, ⟨true, [], [29]⟩, ⟨true, [], [4]⟩])] (.s .o (.s .o (.k .o .o))) Try.func114 rfl (by decide +kernel) (by decide +kernel) rfl trivial ?_
  have e74 : (∀ f z, V.sl f z [[V.i .u8 74]] = V.sl f z (bys [74])) ∧ (∀ l, sn (bys l) [V.i .u8 74] = bys (ap l [74])) := ⟨fun _ _ => by rw [show [[V.i .u8 74]] = bys [74] from by rw [bys_eq]; rfl], fun l => sn_b l 74⟩
  cbv; try simp only [F, F2, N0, N_Byte, N_Int, e74]
  repeat (first | (refine regD.rest 6 ?_; cbv; try simp only [F, F2, N0, N_Byte, N_Int, e74]) | (refine awD.rest ?_; cbv; try simp only [F, F2, N0, N_Byte, N_Int, e74]))
  obtain ⟨r2, hr2, h⟩ := bnd_out h
  refine CallK.introE rfl rfl (r_sPutNum hr2) ?_
  clear hr2
  cbv; try simp only [F, F2, N0, N_Byte, N_Int, e74]
  repeat (first | (refine regD.rest 6 ?_; cbv; try simp only [F, F2, N0, N_Byte, N_Int, e74]) | (refine awD.rest ?_; cbv; try simp only [F, F2, N0, N_Byte, N_Int, e74]))
  obtain ⟨c26, h⟩ := ck_out h
  refine ⟨c26, ?_⟩
  repeat (first | (refine regD.rest 6 ?_; cbv; try simp only [F, F2, N0, N_Byte, N_Int, e74]) | (refine awD.rest ?_; cbv; try simp only [F, F2, N0, N_Byte, N_Int, e74]))
  obtain ⟨o12, ho12, h⟩ := bnd_out h
  refine CutK.intro (α := (List UInt8)) [1, 5] [] (fun a => [(5, .sl .own 1 (bys a))]) (fun a => []) (fun a => a = o12) ?_ ?_
  · cbv; try simp only [F, F2, N0, N_Byte, N_Int, e74]
    repeat (first | (refine regD.rest 6 ?_; cbv; try simp only [F, F2, N0, N_Byte, N_Int, e74]) | (refine awD.rest ?_; cbv; try simp only [F, F2, N0, N_Byte, N_Int, e74]))
    refine LoopR (σ := (List UInt8) × Int) ho12 [0, 1, 5, 6] [] (fun a => [(5, .sl .own 1 (bys a.1)), (6, .i .i64 a.2)]) (fun a => []) (by first | rfl | (simp only [rows_nil, bys_n]; rfl)) fun _ s21 xs21 hs21 bs21 es21 => ?_
    obtain ⟨s21_0, s21_1⟩ := s21
    try dsimp only at hs21
    cbv; try simp only [F, F2, N0, N_Byte, N_Int, e74]
    repeat (first | (refine regD.rest 6 ?_; cbv; try simp only [F, F2, N0, N_Byte, N_Int, e74]) | (refine awD.rest ?_; cbv; try simp only [F, F2, N0, N_Byte, N_Int, e74]))
    split
    · rename_i q25; simp only [q25, cond_true] at hs21 ⊢
      cbv; try simp only [F, F2, N0, N_Byte, N_Int, e74]
      repeat (first | (refine regD.rest 6 ?_; cbv; try simp only [F, F2, N0, N_Byte, N_Int, e74]) | (refine awD.rest ?_; cbv; try simp only [F, F2, N0, N_Byte, N_Int, e74]))
      obtain ⟨y22, hy22, hs21⟩ := bnd_out hs21
      refine ⟨gt_in hy22, ?_⟩
      repeat (first | (refine regD.rest 6 ?_; cbv; try simp only [F, F2, N0, N_Byte, N_Int, e74]) | (refine awD.rest ?_; cbv; try simp only [F, F2, N0, N_Byte, N_Int, e74]))
      refine ⟨_, gt_at _ hy22, ?_⟩
      cbv; try simp only [F, F2, N0, N_Byte, N_Int, e74]
      repeat (first | (refine regD.rest 6 ?_; cbv; try simp only [F, F2, N0, N_Byte, N_Int, e74]) | (refine awD.rest ?_; cbv; try simp only [F, F2, N0, N_Byte, N_Int, e74]))
      obtain ⟨r23, hr23, hs21⟩ := bnd_out hs21
      refine CallK.introE rfl rfl (r_sPutNum hr23) ?_
      clear hr23
      cbv; try simp only [F, F2, N0, N_Byte, N_Int, e74]
      repeat (first | (refine regD.rest 6 ?_; cbv; try simp only [F, F2, N0, N_Byte, N_Int, e74]) | (refine awD.rest ?_; cbv; try simp only [F, F2, N0, N_Byte, N_Int, e74]))
      obtain ⟨c24, hs21⟩ := ck_out hs21
      refine ⟨c24, ?_⟩
      repeat (first | (refine regD.rest 6 ?_; cbv; try simp only [F, F2, N0, N_Byte, N_Int, e74]) | (refine awD.rest ?_; cbv; try simp only [F, F2, N0, N_Byte, N_Int, e74]))
      obtain rfl := Option.some.inj hs21
      first | exact ⟨_, bs21 _ rfl, rfl⟩ | (refine ⟨_, bs21 _ rfl, ?_⟩; simp only [rows_nil, bys_n]; rfl)
    · rename_i q25; simp only [q25, cond_false] at hs21 ⊢
      cbv; try simp only [F, F2, N0, N_Byte, N_Int, e74]
      repeat (first | (refine regD.rest 6 ?_; cbv; try simp only [F, F2, N0, N_Byte, N_Int, e74]) | (refine awD.rest ?_; cbv; try simp only [F, F2, N0, N_Byte, N_Int, e74]))
      obtain rfl := Option.some.inj hs21
      replace ho12 := congrArg some (es21 _ rfl)
      obtain rfl := Option.some.inj ho12
      first | exact ⟨_, rfl, rfl⟩ | (refine ⟨_, rfl, ?_⟩; simp only [rows_nil, bys_n]; rfl)
  · rintro a13 rfl
    clear ho12
    cbv; try simp only [F, F2, N0, N_Byte, N_Int, e74]
    repeat (first | (refine regD.rest 6 ?_; cbv; try simp only [F, F2, N0, N_Byte, N_Int, e74]) | (refine awD.rest ?_; cbv; try simp only [F, F2, N0, N_Byte, N_Int, e74]))
    obtain ⟨r15, hr15, h⟩ := bnd_out h
    refine CallK.introE rfl rfl (r_sl4Four hr15) ?_
    clear hr15
    cbv; try simp only [F, F2, N0, N_Byte, N_Int, e74]
    repeat (first | (refine regD.rest 6 ?_; cbv; try simp only [F, F2, N0, N_Byte, N_Int, e74]) | (refine awD.rest ?_; cbv; try simp only [F, F2, N0, N_Byte, N_Int, e74]))
    obtain ⟨c16, h⟩ := ck_out h
    refine ⟨c16, ?_⟩
    repeat (first | (refine regD.rest 6 ?_; cbv; try simp only [F, F2, N0, N_Byte, N_Int, e74]) | (refine awD.rest ?_; cbv; try simp only [F, F2, N0, N_Byte, N_Int, e74]))
    obtain rfl := Option.some.inj h
    first | exact LeV.to rfl (LeF.rfl' _) | (simp only [rows_nil, bys_n]; exact LeV.to rfl (LeF.rfl' _))
theorem r_sHeadText {a0 : List PutD} {r : (List UInt8)} (h : sHeadText a0 = some r) : Ret pg 93 true [.sl .shr 2 (rows putR a0)] [] (.s r) := by
  unfold sHeadText at h
  refine retD 1000 1000 [] (.s .o (.s .o (.s .o (.s .o (.k .o .o))))) Try.func93 rfl (by decide +kernel) (by decide +kernel) rfl trivial ?_
  cbv; try simp only [F, F2, N0, N_Int, N_Put, N_String]
  obtain ⟨r3, hr3, h⟩ := bnd_out h
  refine CallK.introE rfl rfl (r_sTxOk hr3) ?_
  clear hr3
  cbv; try simp only [F, F2, N0, N_Int, N_Put, N_String]
  cases r3
  · simp only [cond_false] at h
    cbv; try simp only [F, F2, N0, N_Int, N_Put, N_String]
    obtain rfl := Option.some.inj h
    first | exact LeV.to rfl (LeF.rfl' _) | (simp only [rows_nil, bys_n]; exact LeV.to rfl (LeF.rfl' _))
  · simp only [cond_true] at h
    cbv; try simp only [F, F2, N0, N_Int, N_Put, N_String]
    obtain ⟨o10, ho10, h⟩ := bnd_out h
    refine CutK.intro (α := (List Int) × (List (List UInt8))) [3, 4] [] (fun a => [(3, .sl .own 1 (rows intR a.1)), (4, .sl .own 1 (rows strR a.2))]) (fun a => []) (fun a => a = o10) ?_ ?_
    · cbv; try simp only [F, F2, N0, N_Int, N_Put, N_String]
      refine LoopR (σ := (List Int) × (List (List UInt8)) × Int) ho10 [0, 3, 4, 5] [] (fun a => [(3, .sl .own 1 (rows intR a.1)), (4, .sl .own 1 (rows strR a.2.1)), (5, .i .i64 a.2.2)]) (fun a => []) (by first | rfl | (simp only [rows_nil, bys_n]; rfl)) fun _ s18 xs18 hs18 bs18 es18 => ?_
      obtain ⟨s18_0, s18_1, s18_2⟩ := s18
      try dsimp only at hs18
      cbv; try simp only [F, F2, N0, N_Int, N_Put, N_String]
      split
      · rename_i q22; simp only [q22, cond_true] at hs18 ⊢
        cbv; try simp only [F, F2, N0, N_Int, N_Put, N_String]
        obtain ⟨y19, hy19, hs18⟩ := bnd_out hs18
        refine ⟨gt_in hy19, ?_⟩
        refine ⟨_, gt_at _ hy19, ?_⟩
        cbv; try simp only [F, F2, N0, N_Int, N_Put, N_String]
        obtain ⟨c21, hs18⟩ := ck_out hs18
        refine ⟨c21, ?_⟩
        refine ⟨gt_in hy19, ?_⟩
        refine ⟨_, gt_at _ hy19, ?_⟩
        cbv; try simp only [F, F2, N0, N_Int, N_Put, N_String]
        obtain ⟨c20, hs18⟩ := ck_out hs18
        refine ⟨c20, ?_⟩
        obtain rfl := Option.some.inj hs18
        first | exact ⟨_, bs18 _ rfl, rfl⟩ | (refine ⟨_, bs18 _ rfl, ?_⟩; simp only [rows_nil, bys_n]; rfl)
      · rename_i q22; simp only [q22, cond_false] at hs18 ⊢
        cbv; try simp only [F, F2, N0, N_Int, N_Put, N_String]
        obtain rfl := Option.some.inj hs18
        replace ho10 := congrArg some (es18 _ rfl)
        obtain rfl := Option.some.inj ho10
        first | exact ⟨_, rfl, rfl⟩ | (refine ⟨_, rfl, ?_⟩; simp only [rows_nil, bys_n]; rfl)
    · rintro a11 rfl
      clear ho10
      obtain ⟨a11_0, a11_1⟩ := a11
      try dsimp only at h
      cbv; try simp only [F, F2, N0, N_Int, N_Put, N_String]
      obtain ⟨r14, hr14, h⟩ := bnd_out h
      refine CallK.introE rfl rfl (r_sl4Sum hr14) ?_
      clear hr14
      cbv; try simp only [F, F2, N0, N_Int, N_Put, N_String]
      obtain ⟨r15, hr15, h⟩ := bnd_out h
      refine CallK.introE rfl rfl (r_sl4Head hr15) ?_
      clear hr15
      cbv; try simp only [F, F2, N0, N_Int, N_Put, N_String]
      obtain rfl := Option.some.inj h
      first | exact LeV.to rfl (LeF.rfl' _) | (simp only [rows_nil, bys_n]; exact LeV.to rfl (LeF.rfl' _))
theorem r_sCommit {a0 : Int} {a1 : List PutD} {r : (List EventD)} (h : sCommit a0 a1 = some r) : Ret pg 57 true [.i .i64 a0, .sl .shr 2 (rows putR a1)] [] (.sl .own 3 (rows eventR r)) := by
  unfold sCommit at h
  refine retD 8 3 [(9, [⟨true, [], [5, 33]⟩, ⟨false, [35, 36, 37, 38], [34]⟩, ⟨false, [34], [35]⟩, ⟨false, [34, 38], [36]⟩, ⟨false, [34, 38], [37]⟩, ⟨false, [34, 36, 37], [38]⟩, ⟨true, [], [34, 37, 38, 39]⟩, ⟨true, [], [40]⟩, ⟨true, [], [5]⟩]), (13, [⟨true, [], [5, 47]⟩, ⟨true, [], [48]⟩, ⟨true, [], [49]⟩, ⟨true, [], [50]⟩, ⟨true, [], [51]⟩, ⟨false, [56, 57, 58, 59, 60], [52]⟩, ⟨false, [56, 57, 58, 59, 60], [53]⟩, ⟨false, [56, 57, 58, 59, 60], [54]⟩, ⟨false, [56, 57, 58, 59, 60], [55]⟩, ⟨false, [52, 53, 54, 55], [56]⟩, ⟨false, [52, 53, 54, 55], [57]⟩, ⟨false, [52, 53, 54, 55], [58]⟩, ⟨false, [52, 53, 54, 55], [59]⟩, ⟨false, [52, 53, 54, 55], [60]⟩, ⟨true, [], [61]⟩, ⟨true, [], [61, 62]⟩, ⟨true, [], [63]⟩, ⟨true, [], [5]⟩]), (14, [⟨true, [], [64]⟩, ⟨false, [66, 67], [65]⟩, ⟨false, [65, 67], [66]⟩, ⟨false, [65, 66], [67]⟩, ⟨true, [], [65, 66, 67, 68]⟩, ⟨true, [], [69]⟩, ⟨true, [], [4]⟩])] (.s .o (.s .o (.s .o (.s .o (.k .o (.s .o (.k .o .o))))))) Try.func57 rfl (by decide +kernel) (by decide +kernel) rfl ⟨rfl, own_eventS _⟩ ?_
  cbv; try simp only [F, F2, N0, N_Event, N_Put]
  repeat (first | (refine regD.rest 6 ?_; cbv; try simp only [F, F2, N0, N_Event, N_Put]) | (refine awD.rest ?_; cbv; try simp only [F, F2, N0, N_Event, N_Put]))
  obtain ⟨r3, hr3, h⟩ := bnd_out h
  refine CallK.introE rfl rfl (r_sTxOk hr3) ?_
  clear hr3
  cbv; try simp only [F, F2, N0, N_Event, N_Put]
  repeat (first | (refine regD.rest 6 ?_; cbv; try simp only [F, F2, N0, N_Event, N_Put]) | (refine awD.rest ?_; cbv; try simp only [F, F2, N0, N_Event, N_Put]))
  cases r3
  · simp only [cond_false] at h
    cbv; try simp only [F, F2, N0, N_Event, N_Put]
    repeat (first | (refine regD.rest 6 ?_; cbv; try simp only [F, F2, N0, N_Event, N_Put]) | (refine awD.rest ?_; cbv; try simp only [F, F2, N0, N_Event, N_Put]))
    obtain rfl := Option.some.inj h
    first | exact LeV.to rfl (LeF.rfl' _) | (simp only [rows_nil, bys_n]; exact LeV.to rfl (LeF.rfl' _))
  · simp only [cond_true] at h
    cbv; try simp only [F, F2, N0, N_Event, N_Put]
    repeat (first | (refine regD.rest 6 ?_; cbv; try simp only [F, F2, N0, N_Event, N_Put]) | (refine awD.rest ?_; cbv; try simp only [F, F2, N0, N_Event, N_Put]))
    obtain ⟨o13, ho13, h⟩ := bnd_out h
    refine CutK.intro (α := (List EventD)) [0, 1, 5, 6] [6] (fun a => [(5, .sl .own 3 (rows eventR a))]) (fun a => []) (fun a => a = o13) ?_ ?_
    · cbv; try simp only [F, F2, N0, N_Event, N_Put]
      repeat (first | (refine regD.rest 6 ?_; cbv; try simp only [F, F2, N0, N_Event, N_Put]) | (refine awD.rest ?_; cbv; try simp only [F, F2, N0, N_Event, N_Put]))
      refine LoopR (σ := (List EventD) × Int) ho13 [0, 1, 5, 6, 7] [6] (fun a => [(5, .sl .own 3 (rows eventR a.1)), (7, .i .i64 a.2)]) (fun a => []) (by first | rfl | (simp only [rows_nil, bys_n]; rfl)) fun _ s47 xs47 hs47 bs47 es47 => ?_
      obtain ⟨s47_0, s47_1⟩ := s47
      try dsimp only at hs47
      cbv; try simp only [F, F2, N0, N_Event, N_Put]
      repeat (first | (refine regD.rest 6 ?_; cbv; try simp only [F, F2, N0, N_Event, N_Put]) | (refine awD.rest ?_; cbv; try simp only [F, F2, N0, N_Event, N_Put]))
      split
      · rename_i q51; simp only [q51, cond_true] at hs47 ⊢
        cbv; try simp only [F, F2, N0, N_Event, N_Put]
        repeat (first | (refine regD.rest 6 ?_; cbv; try simp only [F, F2, N0, N_Event, N_Put]) | (refine awD.rest ?_; cbv; try simp only [F, F2, N0, N_Event, N_Put]))
        obtain ⟨y48, hy48, hs47⟩ := bnd_out hs47
        refine ⟨gt_in hy48, ?_⟩
        repeat (first | (refine regD.rest 6 ?_; cbv; try simp only [F, F2, N0, N_Event, N_Put]) | (refine awD.rest ?_; cbv; try simp only [F, F2, N0, N_Event, N_Put]))
        refine ⟨_, gt_at _ hy48, ?_⟩
        cbv; try simp only [F, F2, N0, N_Event, N_Put]
        repeat (first | (refine regD.rest 6 ?_; cbv; try simp only [F, F2, N0, N_Event, N_Put]) | (refine awD.rest ?_; cbv; try simp only [F, F2, N0, N_Event, N_Put]))
        obtain ⟨r49, hr49, hs47⟩ := bnd_out hs47
        refine CallK.introE rfl rfl (r_sl4Event hr49) ?_
        clear hr49
        cbv; try simp only [F, F2, N0, N_Event, N_Put]
        repeat (first | (refine regD.rest 6 ?_; cbv; try simp only [F, F2, N0, N_Event, N_Put]) | (refine awD.rest ?_; cbv; try simp only [F, F2, N0, N_Event, N_Put]))
        obtain ⟨c50, hs47⟩ := ck_out hs47
        refine ⟨c50, ?_⟩
        repeat (first | (refine regD.rest 6 ?_; cbv; try simp only [F, F2, N0, N_Event, N_Put]) | (refine awD.rest ?_; cbv; try simp only [F, F2, N0, N_Event, N_Put]))
        obtain rfl := Option.some.inj hs47
        first | exact ⟨_, bs47 _ rfl, rfl⟩ | (refine ⟨_, bs47 _ rfl, ?_⟩; simp only [rows_nil, bys_n]; rfl)
      · rename_i q51; simp only [q51, cond_false] at hs47 ⊢
        cbv; try simp only [F, F2, N0, N_Event, N_Put]
        repeat (first | (refine regD.rest 6 ?_; cbv; try simp only [F, F2, N0, N_Event, N_Put]) | (refine awD.rest ?_; cbv; try simp only [F, F2, N0, N_Event, N_Put]))
        obtain rfl := Option.some.inj hs47
        replace ho13 := congrArg some (es47 _ rfl)
        obtain rfl := Option.some.inj ho13
        first | exact ⟨_, rfl, rfl⟩ | (refine ⟨_, rfl, ?_⟩; simp only [rows_nil, bys_n]; rfl)
    · rintro a14 rfl
      clear ho13
      cbv; try simp only [F, F2, N0, N_Event, N_Put]
      repeat (first | (refine regD.rest 6 ?_; cbv; try simp only [F, F2, N0, N_Event, N_Put]) | (refine awD.rest ?_; cbv; try simp only [F, F2, N0, N_Event, N_Put]))
      obtain ⟨r17, hr17, h⟩ := bnd_out h
      refine CallK.introE rfl rfl (r_sHeadText hr17) ?_
      clear hr17
      cbv; try simp only [F, F2, N0, N_Event, N_Put]
      repeat (first | (refine regD.rest 6 ?_; cbv; try simp only [F, F2, N0, N_Event, N_Put]) | (refine awD.rest ?_; cbv; try simp only [F, F2, N0, N_Event, N_Put]))
      obtain ⟨r18, hr18, h⟩ := bnd_out h
      refine CallK.introE rfl rfl (r_sl4Event hr18) ?_
      clear hr18
      cbv; try simp only [F, F2, N0, N_Event, N_Put]
      repeat (first | (refine regD.rest 6 ?_; cbv; try simp only [F, F2, N0, N_Event, N_Put]) | (refine awD.rest ?_; cbv; try simp only [F, F2, N0, N_Event, N_Put]))
      obtain ⟨c42, h⟩ := ck_out h
      refine ⟨c42, ?_⟩
      repeat (first | (refine regD.rest 6 ?_; cbv; try simp only [F, F2, N0, N_Event, N_Put]) | (refine awD.rest ?_; cbv; try simp only [F, F2, N0, N_Event, N_Put]))
      obtain ⟨o28, ho28, h⟩ := bnd_out h
      refine CutK.intro (α := (List EventD)) [5, 6] [6] (fun a => [(5, .sl .own 3 (rows eventR a))]) (fun a => []) (fun a => a = o28) ?_ ?_
      · cbv; try simp only [F, F2, N0, N_Event, N_Put]
        repeat (first | (refine regD.rest 6 ?_; cbv; try simp only [F, F2, N0, N_Event, N_Put]) | (refine awD.rest ?_; cbv; try simp only [F, F2, N0, N_Event, N_Put]))
        refine LoopR (σ := (List EventD) × Int) ho28 [0, 1, 5, 6, 8] [6] (fun a => [(5, .sl .own 3 (rows eventR a.1)), (8, .i .i64 a.2)]) (fun a => []) (by first | rfl | (simp only [rows_nil, bys_n]; rfl)) fun _ s37 xs37 hs37 bs37 es37 => ?_
        obtain ⟨s37_0, s37_1⟩ := s37
        try dsimp only at hs37
        cbv; try simp only [F, F2, N0, N_Event, N_Put]
        repeat (first | (refine regD.rest 6 ?_; cbv; try simp only [F, F2, N0, N_Event, N_Put]) | (refine awD.rest ?_; cbv; try simp only [F, F2, N0, N_Event, N_Put]))
        split
        · rename_i q41; simp only [q41, cond_true] at hs37 ⊢
          cbv; try simp only [F, F2, N0, N_Event, N_Put]
          repeat (first | (refine regD.rest 6 ?_; cbv; try simp only [F, F2, N0, N_Event, N_Put]) | (refine awD.rest ?_; cbv; try simp only [F, F2, N0, N_Event, N_Put]))
          obtain ⟨y38, hy38, hs37⟩ := bnd_out hs37
          refine ⟨gt_in hy38, ?_⟩
          repeat (first | (refine regD.rest 6 ?_; cbv; try simp only [F, F2, N0, N_Event, N_Put]) | (refine awD.rest ?_; cbv; try simp only [F, F2, N0, N_Event, N_Put]))
          refine ⟨_, gt_at _ hy38, ?_⟩
          cbv; try simp only [F, F2, N0, N_Event, N_Put]
          repeat (first | (refine regD.rest 6 ?_; cbv; try simp only [F, F2, N0, N_Event, N_Put]) | (refine awD.rest ?_; cbv; try simp only [F, F2, N0, N_Event, N_Put]))
          refine ⟨gt_in hy38, ?_⟩
          repeat (first | (refine regD.rest 6 ?_; cbv; try simp only [F, F2, N0, N_Event, N_Put]) | (refine awD.rest ?_; cbv; try simp only [F, F2, N0, N_Event, N_Put]))
          refine ⟨_, gt_at _ hy38, ?_⟩
          cbv; try simp only [F, F2, N0, N_Event, N_Put]
          repeat (first | (refine regD.rest 6 ?_; cbv; try simp only [F, F2, N0, N_Event, N_Put]) | (refine awD.rest ?_; cbv; try simp only [F, F2, N0, N_Event, N_Put]))
          obtain ⟨r39, hr39, hs37⟩ := bnd_out hs37
          refine CallK.introE rfl rfl (r_sl4Event hr39) ?_
          clear hr39
          cbv; try simp only [F, F2, N0, N_Event, N_Put]
          repeat (first | (refine regD.rest 6 ?_; cbv; try simp only [F, F2, N0, N_Event, N_Put]) | (refine awD.rest ?_; cbv; try simp only [F, F2, N0, N_Event, N_Put]))
          obtain ⟨c40, hs37⟩ := ck_out hs37
          refine ⟨c40, ?_⟩
          repeat (first | (refine regD.rest 6 ?_; cbv; try simp only [F, F2, N0, N_Event, N_Put]) | (refine awD.rest ?_; cbv; try simp only [F, F2, N0, N_Event, N_Put]))
          obtain rfl := Option.some.inj hs37
          first | exact ⟨_, bs37 _ rfl, rfl⟩ | (refine ⟨_, bs37 _ rfl, ?_⟩; simp only [rows_nil, bys_n]; rfl)
        · rename_i q41; simp only [q41, cond_false] at hs37 ⊢
          cbv; try simp only [F, F2, N0, N_Event, N_Put]
          repeat (first | (refine regD.rest 6 ?_; cbv; try simp only [F, F2, N0, N_Event, N_Put]) | (refine awD.rest ?_; cbv; try simp only [F, F2, N0, N_Event, N_Put]))
          obtain rfl := Option.some.inj hs37
          replace ho28 := congrArg some (es37 _ rfl)
          obtain rfl := Option.some.inj ho28
          first | exact ⟨_, rfl, rfl⟩ | (refine ⟨_, rfl, ?_⟩; simp only [rows_nil, bys_n]; rfl)
      · rintro a29 rfl
        clear ho28
        cbv; try simp only [F, F2, N0, N_Event, N_Put]
        repeat (first | (refine regD.rest 6 ?_; cbv; try simp only [F, F2, N0, N_Event, N_Put]) | (refine awD.rest ?_; cbv; try simp only [F, F2, N0, N_Event, N_Put]))
        obtain ⟨r31, hr31, h⟩ := bnd_out h
        refine CallK.introE rfl rfl (r_sl4Event hr31) ?_
        clear hr31
        cbv; try simp only [F, F2, N0, N_Event, N_Put]
        repeat (first | (refine regD.rest 6 ?_; cbv; try simp only [F, F2, N0, N_Event, N_Put]) | (refine awD.rest ?_; cbv; try simp only [F, F2, N0, N_Event, N_Put]))
        obtain ⟨c32, h⟩ := ck_out h
        refine ⟨c32, ?_⟩
        repeat (first | (refine regD.rest 6 ?_; cbv; try simp only [F, F2, N0, N_Event, N_Put]) | (refine awD.rest ?_; cbv; try simp only [F, F2, N0, N_Event, N_Put]))
        obtain rfl := Option.some.inj h
        first | exact LeV.to rfl (LeF.rfl' _) | (simp only [rows_nil, bys_n]; exact LeV.to rfl (LeF.rfl' _))
theorem r_sStepEvents {a0 : PoolD} {a1 : StepD} {r : (List EventD)} (h : sStepEvents a0 a1 = some r) : Ret pg 22 true [.ag (poolC a0), .ag (stepC a1)] [] (.sl .own 3 (rows eventR r)) := by
  unfold sStepEvents at h
  refine retD 1000 1000 [] .o Try.func22 rfl (by decide +kernel) (by decide +kernel) rfl ⟨rfl, own_eventS _⟩ ?_
  cbv; try simp only [F, F2, N0, N_Branch, N_Event, N_Node, N_Put, N_String]
  obtain ⟨r3, hr3, h⟩ := bnd_out h
  refine CallK.introE rfl rfl (r_sl1In hr3) ?_
  clear hr3
  cbv; try simp only [F, F2, N0, N_Branch, N_Event, N_Node, N_Put, N_String]
  cases r3
  · simp only [cond_false] at h
    cbv; try simp only [F, F2, N0, N_Branch, N_Event, N_Node, N_Put, N_String]
    obtain rfl := Option.some.inj h
    first | exact LeV.to rfl (LeF.rfl' _) | (simp only [rows_nil, bys_n]; exact LeV.to rfl (LeF.rfl' _))
  · simp only [cond_true] at h
    cbv; try simp only [F, F2, N0, N_Branch, N_Event, N_Node, N_Put, N_String]
    obtain ⟨y5, hy5, h⟩ := bnd_out h
    refine ⟨gt_in hy5, ?_⟩
    refine ⟨_, gt_at _ hy5, ?_⟩
    cbv; try simp only [F, F2, N0, N_Branch, N_Event, N_Node, N_Put, N_String]
    obtain ⟨r7, hr7, h⟩ := bnd_out h
    refine CallK.introE rfl rfl (r_sHomesOf hr7) ?_
    clear hr7
    cbv; try simp only [F, F2, N0, N_Branch, N_Event, N_Node, N_Put, N_String]
    obtain ⟨r10, hr10, h⟩ := bnd_out h
    refine CallK.introE rfl rfl (r_sHomesOf hr10) ?_
    clear hr10
    cbv; try simp only [F, F2, N0, N_Branch, N_Event, N_Node, N_Put, N_String]
    split
    · rename_i q15; simp only [q15, cond_true] at h ⊢
      cbv; try simp only [F, F2, N0, N_Branch, N_Event, N_Node, N_Put, N_String]
      obtain rfl := Option.some.inj h
      first | exact LeV.to rfl (LeF.rfl' _) | (simp only [rows_nil, bys_n]; exact LeV.to rfl (LeF.rfl' _))
    · rename_i q15; simp only [q15, cond_false] at h ⊢
      cbv; try simp only [F, F2, N0, N_Branch, N_Event, N_Node, N_Put, N_String]
      obtain ⟨r13, hr13, h⟩ := bnd_out h
      refine CallK.introE rfl rfl (r_sDiff hr13) ?_
      clear hr13
      cbv; try simp only [F, F2, N0, N_Branch, N_Event, N_Node, N_Put, N_String]
      obtain ⟨r14, hr14, h⟩ := bnd_out h
      refine CallK.introE rfl rfl (r_sCommit hr14) ?_
      clear hr14
      cbv; try simp only [F, F2, N0, N_Branch, N_Event, N_Node, N_Put, N_String]
      obtain rfl := Option.some.inj h
      first | exact LeV.to rfl (LeF.rfl' _) | (simp only [rows_nil, bys_n]; exact LeV.to rfl (LeF.rfl' _))
end Go.Ar
