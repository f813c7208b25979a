import Derived.Test.YtfgajjjnjemmbaaArW
namespace Go.Ar
open Go.Proofs
set_option linter.unusedVariables false
set_option linter.unusedSimpArgs false
set_option maxRecDepth 20000

theorem sub_len {l r : Int} {s : List UInt8} (e : iop .sub .i64 l (slen s) = r) (h0 : 0 ≤ l) (h1 : l ≤ 1048576) (hs : s.length ≤ maxLen) : r = l - (s.length : Int) := by
  rw [← e, iop_sub, slen_eq]
  unfold maxLen at hs
  exact wrap_i64 (by omega) (by omega)
theorem ret_eq {P : Program} {f : Nat} {o : Bool} {vs : List V} {g : List (List V)} {v : V} (h : ∀ r, v = r → Ret P f o vs g r) : Ret P f o vs g v := h v rfl
def withinF (n lo hi : Int) : Bool := decide (lo ≤ n) && decide (n ≤ hi)
theorem ret_within (n lo hi : Int) : Ret pg 18 true [.i .i64 n, .i .i64 lo, .i .i64 hi] [] (.b (withinF n lo hi)) := by
  generalize hr : V.b (withinF n lo hi) = r
  refine ret0 Try.func18 rfl (by decide +kernel) rfl (hr ▸ trivial) ?_
  cbv
  simp only [F]
  split <;> (rename_i h; simp only [h]; cbv; simp only [F]; refine LeV.tb hr ?_; simp only [icmp_geq, icmp_leq] at h ⊢; simp [withinF, h])
theorem ret_l1In (n lo hi : Int) : Ret pg 17 true [.i .i64 n, .i .i64 lo, .i .i64 hi] [] (.b (withinF n lo hi)) := by
  generalize hr : V.b (withinF n lo hi) = r
  refine ret0 Try.func17 rfl (by decide +kernel) rfl (hr ▸ trivial) ?_
  cbv
  simp only [F]
  split <;> (rename_i h; simp only [h]; cbv; simp only [F]; refine LeV.tb hr ?_; simp only [icmp_geq, icmp_leq] at h ⊢; simp [withinF, h])
theorem call_within {n lo hi : Int} {K : V → Prop} (h : ∀ b, withinF n lo hi = b → K (.b b)) : CallK pg 18 true [.i .i64 n, .i .i64 lo, .i .i64 hi] [] K := CallK.intro (ret_within n lo hi) (h _ rfl)
theorem call_l1In {n lo hi : Int} {K : V → Prop} (h : ∀ b, withinF n lo hi = b → K (.b b)) : CallK pg 17 true [.i .i64 n, .i .i64 lo, .i .i64 hi] [] K := CallK.intro (ret_l1In n lo hi) (h _ rfl)

def opOkF (kind at' time : Int) : Bool := withinF kind 0 8 && withinF at' 0 1000 && withinF time 0 100000
theorem ret_OpOk (k : Int) (p t : List UInt8) (a : Int) (d : List UInt8) (m : Int) : Ret pg 10 true [.ag [.i .i64 k, .s p, .s t, .i .i64 a, .s d, .i .i64 m]] [] (.b (opOkF k a m)) := by
  generalize hr : V.b (opOkF k a m) = r
  refine ret0 Try.func10 rfl (by decide +kernel) rfl (hr ▸ trivial) ?_
  cbv; simp only [F]
  refine call_within fun b1 h1 => ?_
  cases b1 <;> cbv <;> simp only [F]
  · exact LeV.tb hr (by simp [opOkF, h1])
  · refine call_within fun b2 h2 => ?_
    cases b2 <;> cbv <;> simp only [F]
    · exact LeV.tb hr (by simp [opOkF, h1, h2])
    · refine call_within fun b3 h3 => ?_
      cbv; simp only [F]
      exact LeV.tb hr (by simp [opOkF, h1, h2, h3])
theorem ret_OpOkS (k : Int) (p t : List UInt8) (a : Int) (d : List UInt8) (m : Int) : Ret pg 8 true [.ag [.i .i64 k, .s p, .s t, .i .i64 a, .s d, .i .i64 m]] [] (.b (opOkF k a m)) := by
  generalize hr : V.b (opOkF k a m) = r
  refine ret0 Try.func8 rfl (by decide +kernel) rfl (hr ▸ trivial) ?_
  cbv; simp only [F]
  refine call_l1In fun b1 h1 => ?_
  cases b1 <;> cbv <;> simp only [F]
  · exact LeV.tb hr (by simp [opOkF, h1])
  · refine call_l1In fun b2 h2 => ?_
    cases b2 <;> cbv <;> simp only [F]
    · exact LeV.tb hr (by simp [opOkF, h1, h2])
    · refine call_l1In fun b3 h3 => ?_
      cbv; simp only [F]
      exact LeV.tb hr (by simp [opOkF, h1, h2, h3])
theorem ret_toOp (k : Int) (p t : List UInt8) (a : Int) (d : List UInt8) (m : Int) : Ret pg 9 true [.ag [.i .i64 k, .s p, .s t, .i .i64 a, .s d, .i .i64 m]] [] (.ag [.i .i64 k, .s p, .s t, .i .i64 a, .s d, .i .i64 m]) := by
  refine ret_eq fun r hr => ?_
  refine ret0 Try.func9 rfl (by decide +kernel) rfl (hr ▸ by simp [OwnV, OwnVs]) ?_
  cbv; simp only [F]
  exact LeV.to hr (LeF.rfl' _)
/-- What is left of the measure. -/
def lessF (left : Int) : List Int → Int
  | [] => left
  | n :: ns => if left - n < 0 then -1 else lessF (left - n) ns
theorem lessF_le : ∀ (ns : List Int) (left : Int), (∀ n ∈ ns, 0 ≤ n) → lessF left ns ≤ left ∨ lessF left ns = -1
  | [], left, _ => .inl (Int.le_refl _)
  | n :: ns, left, h => by
    unfold lessF
    split
    · exact .inr rfl
    · have h0 := h n (by simp)
      rcases lessF_le ns (left - n) (fun x hx => h x (by simp [hx])) with h | h
      · left; omega
      · exact .inr h
theorem ret_szOp (k : Int) (p t : List UInt8) (a : Int) (d : List UInt8) (m left : Int) (hp : p.length ≤ maxLen) (ht : t.length ≤ maxLen) (hd : d.length ≤ maxLen) (h0 : 0 ≤ left) (h1 : left ≤ 1048576) :
    Ret pg 7 true [.ag [.i .i64 k, .s p, .s t, .i .i64 a, .s d, .i .i64 m], .i .i64 left] [] (.i .i64 (lessF left [(p.length : Int), t.length, d.length])) := by
  generalize hr : V.i .i64 (lessF left [(p.length : Int), t.length, d.length]) = r
  refine ret0 Try.func7 rfl (by decide +kernel) rfl (hr ▸ trivial) ?_
  cbv; simp only [F]
  generalize e1 : iop .sub .i64 left (slen p) = l1
  split <;> (rename_i h; simp only [h]; cbv; simp only [F]) <;> simp only [icmp_lss, decide_eq_true_eq, decide_eq_false_iff_not] at h
  · exact LeV.ti hr (by have q1 := sub_len e1 h0 h1 hp; clear e1; subst q1; simp [lessF, h])
  generalize e2 : iop .sub .i64 l1 (slen t) = l2
  split <;> (rename_i h2; simp only [h2]; cbv; simp only [F]) <;> simp only [icmp_lss, decide_eq_true_eq, decide_eq_false_iff_not] at h2
  · exact LeV.ti hr (by have q1 := sub_len e1 h0 h1 hp; have q2 := sub_len e2 (by omega) (by omega) ht; clear e1 e2; subst q1 q2; simp [lessF, h, h2])
  generalize e3 : iop .sub .i64 l2 (slen d) = l3
  split <;> (rename_i h3; simp only [h3]; cbv; simp only [F]) <;> simp only [icmp_lss, decide_eq_true_eq, decide_eq_false_iff_not] at h3
  · exact LeV.ti hr (by have q1 := sub_len e1 h0 h1 hp; have q2 := sub_len e2 (by omega) (by omega) ht; have q3 := sub_len e3 (by omega) (by omega) hd; clear e1 e2 e3; subst q1 q2 q3; simp [lessF, h, h2, h3])
  · exact LeV.ti hr (by have q1 := sub_len e1 h0 h1 hp; have q2 := sub_len e2 (by omega) (by omega) ht; have q3 := sub_len e3 (by omega) (by omega) hd; clear e1 e2 e3; subst q1 q2 q3; simp [lessF, h, h2, h3])

theorem ret_FnExactOpOk (k : Int) (p t : List UInt8) (a : Int) (d : List UInt8) (m : Int) (hp : p.length ≤ maxLen) (ht : t.length ≤ maxLen) (hd : d.length ≤ maxLen) :
    Ret pg 3 true [.ag [.i .i64 k, .s p, .s t, .i .i64 a, .s d, .i .i64 m]] [] (.b true) := by
  refine ret_eq fun r hr => ?_
  refine ret0 Try.func3 rfl (by decide +kernel) rfl (hr ▸ trivial) ?_
  cbv; simp only [F]
  refine CallK.intro (ret_szOp k p t a d m 1048576 hp ht hd (by omega) (by omega)) ?_
  generalize lessF 1048576 [(p.length : Int), t.length, d.length] = l
  cbv; simp only [F]
  split <;> (rename_i h; simp only [h]; cbv; simp only [F])
  · exact LeV.tb hr rfl
  refine CallK.intro (ret_toOp k p t a d m) ?_
  cbv; simp only [F]
  refine CallK.intro (ret_OpOkS k p t a d m) ?_
  generalize hx : opOkF k a m = x
  cbv; simp only [F]
  refine CallK.intro (ret_toOp k p t a d m) ?_
  cbv; simp only [F]
  refine CallK.intro (ret_OpOk k p t a d m) ?_
  rw [hx]
  cases x <;> cbv <;> simp only [F] <;> exact LeV.tb hr rfl
end Go.Ar
