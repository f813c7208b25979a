import Derived.Test.YtfgajjjnjemmbaaArXb
namespace Go.Ar
open Go.Proofs
set_option linter.unusedVariables false
set_option linter.unusedSimpArgs false
set_option maxRecDepth 20000

def padF (old : List UInt8) (n : Nat) : List UInt8 := old ++ List.replicate (n - old.length) 0
def writtenF (old : List UInt8) (at' : Int) (data : List UInt8) : List UInt8 :=
  bif withinF at' 0 100000 then ((padF old at'.toNat).take at'.toNat ++ data) ++ (padF old at'.toNat).drop (min (padF old at'.toNat).length (at'.toNat + data.length)) else old
theorem ssub_head (p : List UInt8) (a : Int) : ssub p 0 a = p.take a.toNat := by rw [ssub_eq]; simp
theorem ssub_tail (p : List UInt8) (n : Nat) : ssub p (n : Int) (slen p) = p.drop n := by
  rw [ssub_eq, slen_eq]
  simp only [Int.toNat_natCast]
  rw [List.take_of_length_le (by simp)]
theorem slen_app (a b : List UInt8) : slen (sapp a b) = ((a.length + b.length : Nat) : Int) := by rw [slen_eq, sapp_eq, List.length_append]
theorem add_lens {a : Int} {data : List UInt8} (h0 : withinF a 0 100000 = true) (hd : data.length ≤ 1048576) : iop .add .i64 a (slen data) = ((a.toNat + data.length : Nat) : Int) := by
  have hb' := withinF_iff.1 h0
  rw [iop_add, slen_eq, wrap_i64 (by omega) (by omega)]; omega
theorem written_close {p data : List UInt8} {a : Int} {r : V} (h0 : withinF a 0 100000 = true) (hp : a.toNat ≤ p.length) (hpl : p.length ≤ 1048576) (hd : data.length ≤ 1048576)
    (hr : V.s ((p.take a.toNat ++ data) ++ p.drop (min p.length (a.toNat + data.length))) = r) :
    InS 0 a (slen p) ∧ Room (plus (slen (ssub p 0 a)) (slen data)) 1 ∧ InS (imin (slen p) (iop .add .i64 a (slen data))) (slen p) (slen p) ∧
      Room (plus (slen (sapp (ssub p 0 a) data)) (slen (ssub p (imin (slen p) (iop .add .i64 a (slen data))) (slen p)))) 1 ∧
      LeV (.s (sapp (sapp (ssub p 0 a) data) (ssub p (imin (slen p) (iop .add .i64 a (slen data))) (slen p)))) r := by
  have hb' := withinF_iff.1 h0
  have e1 : iop .add .i64 a (slen data) = ((a.toNat + data.length : Nat) : Int) := by
    rw [iop_add, slen_eq, wrap_i64 (by omega) (by omega)]; omega
  have e2 : imin (slen p) (((a.toNat + data.length : Nat) : Int)) = ((min p.length (a.toNat + data.length) : Nat) : Int) := by
    rw [imin_eq, slen_eq]; omega
  rw [e1, e2, ssub_head, ssub_tail]
  have l1 : (p.take a.toNat).length = a.toNat := by simp; omega
  have l2 : (p.drop (min p.length (a.toNat + data.length))).length ≤ p.length := by simp
  refine ⟨by rw [InS_eq, slen_eq]; omega, ?_, ?_, ?_, ?_⟩
  · rw [Room_eq, plus_eq, slen_eq, slen_eq]; omega
  · rw [InS_eq, slen_eq]; omega
  · rw [Room_eq, plus_eq, slen_app, slen_eq]; omega
  · rw [sapp_eq, sapp_eq]
    exact LeV.to hr (LeF.rfl' _)
theorem ret_Written (old : List UInt8) (at' : Int) (data : List UInt8) (ho : old.length ≤ 1048576) (hd : data.length ≤ 1048576) : Ret pg 14 true [.s old, .i .i64 at', .s data] [] (.s (writtenF old at' data)) := by
  generalize hr : V.s (writtenF old at' data) = r
  refine ret0 Try.func14 rfl (by decide +kernel) rfl (hr ▸ trivial) ?_
  cbv; simp only [F]
  refine call_within fun b hb => ?_
  cases b <;> cbv <;> simp only [F]
  · exact LeV.ts hr (by simp [writtenF, hb])
  have hb' := withinF_iff.1 hb
  have g0 : at'.toNat ≤ 100000 := by omega
  split <;> (rename_i h; simp only [h]; cbv; simp only [F]) <;> rw [icmp_lss, slen_eq] at h <;> simp only [decide_eq_true_eq, decide_eq_false_iff_not] at h
  · generalize e1 : iop .sub .i64 at' (slen old) = d
    have q1 := sub_lens e1 (by omega) (by omega)
    have g1 : old.length < at'.toNat := by omega
    rw [q1]
    clear q1 h hb'
    refine CallK.intro (ret_Repeat [0] _ (by omega) (by simp; omega)) ?_
    rw [repeat_zeros]
    generalize hz : List.replicate (at'.toNat - old.length) (0 : UInt8) = z
    have hp : padF old at'.toNat = old ++ z := by rw [padF, hz]
    have hzl : z.length = at'.toNat - old.length := by rw [← hz]; simp
    cbv; simp only [F]
    refine ⟨room_len (by omega), ?_⟩
    rw [sapp_eq old z]
    have hl : (old ++ z).length = at'.toNat := by rw [List.length_append]; omega
    refine written_close hb (by omega) (by omega) hd ?_
    rw [← hr, writtenF, hb, cond_true, hp]
  · have hp : padF old at'.toNat = old := by rw [padF, show at'.toNat - old.length = 0 by omega]; simp
    refine written_close hb (by omega) ho hd ?_
    rw [← hr, writtenF, hb, cond_true, hp]
theorem ret_WrittenS (old : List UInt8) (at' : Int) (data : List UInt8) (ho : old.length ≤ 1048576) (hd : data.length ≤ 1048576) : Ret pg 13 true [.s old, .i .i64 at', .s data] [] (.s (writtenF old at' data)) := by
  generalize hr : V.s (writtenF old at' data) = r
  refine ret0 Try.func13 rfl (by decide +kernel) rfl (hr ▸ trivial) ?_
  cbv; simp only [F]
  refine call_l1In fun b hb => ?_
  cases b <;> cbv <;> simp only [F]
  · exact LeV.ts hr (by simp [writtenF, hb])
  have hb' := withinF_iff.1 hb
  have g0 : at'.toNat ≤ 100000 := by omega
  split <;> (rename_i h; simp only [h]; cbv; simp only [F]) <;> rw [icmp_lss, slen_eq] at h <;> simp only [decide_eq_true_eq, decide_eq_false_iff_not] at h
  · have hp : padF old at'.toNat = old := by rw [padF, show at'.toNat - old.length = 0 by omega]; simp
    have g1 : at'.toNat ≤ old.length := by omega
    refine ⟨by rw [InS_eq, slen_eq]; omega, ?_⟩
    have l1 : (old.take at'.toNat).length = at'.toNat := by simp; omega
    have hr' : V.s ((old.take at'.toNat ++ data) ++ old.drop (min old.length (at'.toNat + data.length))) = r := by rw [← hr, writtenF, hb, cond_true, hp]
    split <;> (rename_i h2; simp only [h2]; clear h hb' hr; cbv; simp only [F]) <;> have e1 := add_lens hb hd <;> rw [icmp_lss, e1, slen_eq] at h2 <;> simp only [decide_eq_true_eq, decide_eq_false_iff_not] at h2
    · rw [e1, ssub_head, ssub_tail]
      have l2 : (old.drop (at'.toNat + data.length)).length ≤ old.length := by simp
      refine ⟨by rw [InS_eq, slen_eq]; omega, ?_, ?_, LeV.ts hr' ?_⟩
      · rw [Room_eq, plus_eq, slen_eq, slen_eq]; omega
      · rw [Room_eq, plus_eq, slen_app, slen_eq]; omega
      · rw [sapp_eq, sapp_eq, show min old.length (at'.toNat + data.length) = at'.toNat + data.length by omega]
    · rw [ssub_head]
      refine ⟨?_, ?_, LeV.ts hr' ?_⟩
      · rw [Room_eq, plus_eq, slen_eq, slen_eq]; omega
      · rw [Room_eq, plus_eq, slen_app, slen_eq]; simp; omega
      · rw [sapp_eq, sapp_eq, show min old.length (at'.toNat + data.length) = old.length by omega]; simp
  · generalize e1 : iop .sub .i64 at' (slen old) = d
    have q1 := sub_lens e1 (by omega) (by omega)
    rw [q1, unb_zeros]
    have hp : padF old at'.toNat = old ++ List.replicate (at'.toNat - old.length) 0 := rfl
    have hzl : (List.replicate (at'.toNat - old.length) (0 : UInt8)).length = at'.toNat - old.length := by simp
    refine ⟨by rw [InS_eq]; omega, by rw [Room_eq]; omega, isB_zeros _, ?_⟩
    generalize hz : List.replicate (at'.toNat - old.length) (0 : UInt8) = z
    rw [hz] at hp hzl
    have hl : (old ++ z).length = at'.toNat := by rw [List.length_append]; omega
    refine ⟨room_len (by omega), ?_, ?_, LeV.ts hr ?_⟩
    · rw [Room_eq, plus_eq, slen_app, slen_eq]; omega
    · rw [Room_eq, plus_eq, slen_app, sapp_eq, slen_eq]; simp; omega
    · rw [sapp_eq, sapp_eq, sapp_eq, writtenF, hb, cond_true, hp, List.take_of_length_le (by omega), show min (old ++ z).length (at'.toNat + data.length) = (old ++ z).length by omega]; simp

theorem ret_FnExactWritten (old : List UInt8) (at' : Int) (data : List UInt8) (h0 : old.length ≤ maxLen) (h1 : (Lit.int .i64 at').wf = true) (h2 : data.length ≤ maxLen) : Ret pg 5 true [.s old, .i .i64 at', .s data] [] (.b true) := by
  refine ret_eq fun r hr => ?_
  refine ret0 Try.func5 rfl (by decide +kernel) rfl (hr ▸ trivial) ?_
  clear h0 h1 h2
  cbv; simp only [F]
  split <;> (rename_i h; simp only [h]; cbv; simp only [F])
  · exact LeV.tb hr rfl
  have g1 : old.length ≤ 1048576 := by rw [icmp_gtr, slen_eq] at h; simp only [decide_eq_false_iff_not] at h; omega
  split <;> (rename_i h2; simp only [h2]; cbv; simp only [F])
  · exact LeV.tb hr rfl
  have g2 : data.length ≤ 1048576 := by rw [icmp_gtr, slen_eq] at h2; simp only [decide_eq_false_iff_not] at h2; omega
  refine CallK.intro (ret_WrittenS old at' data g1 g2) ?_
  generalize hx : writtenF old at' data = x
  cbv; simp only [F]
  refine CallK.intro (ret_Written old at' data g1 g2) ?_
  rw [hx]
  cbv; simp only [F]
  simp only [scmp_neq_self]; cbv; simp only [F]
  exact LeV.tb hr rfl
end Go.Ar
