import Derived.Test.YtfgajjjnjemmbaaArXa
import Derived.Test.YtfgajjjnjemmbaaArLa
import Derived.Shelf.Strings.Repeat
namespace Go.Ar
open Go.Proofs
set_option linter.unusedVariables false
set_option linter.unusedSimpArgs false
set_option maxRecDepth 20000

/-- A contract of the kit's shelf, over plain arguments, as a contract of ours. -/
theorem ret_of_calls {P : Program} {f : Nat} {fn : Func} {args : List V} {us : List Value} {r : V} {u : Value} (hf : P.funcs[f]? = some fn) (hb : fn.body.isNone = false) (hn : (fn.name == "runtime.NumGoroutine") = false)
    (ha : ∀ (w : World) (Sh H : Nat → Prop) (ρ : Rt → Option Sr) (vs : List Value), RepTs w Sh ρ args vs H → vs = us) (hr : ∀ (w : World) (S : Nat → Prop), RepT w S (fun _ => none) r u (fun _ => False))
    (h : ∀ w, Calls P f us.toArray w fun e w' => e = .returned u ∧ RowKit.Below w.heap.size w w') : Ret P f true args [] r := by
  refine ⟨⟨fn, hf, hb, hn⟩, fun w Sh H l vs h1 h2 h3 h4 => ?_⟩
  rw [ha w Sh H _ vs h3]
  refine (h w).mono fun e w' ⟨he, bel⟩ => ?_
  refine ⟨u, Sh, fun _ => False, he, fun S hS => hr w' S, ?_⟩
  exact ⟨fun b hb => hb, fun b hb => ⟨Nat.lt_of_lt_of_le (h1 b hb) bel.size, .inl hb⟩, fun b hb => hb.elim, fun b hb _ => bel.block b hb, bel.size, bel.os, bel.tape, bel.output⟩

theorem ret_Repeat (s : List UInt8) (c : Nat) (hc : c ≤ 9223372036854775807) (hl : s.length * c ≤ 140737488355328) :
    Ret pg 19 true [.s s, .i .i64 (c : Int)] [] (.s (Lib.repeatL s c)) := by
  refine ret_of_calls (us := [.string ⟨s.toArray⟩, .int .i64 c]) (u := .string ⟨(Lib.repeatL s c).toArray⟩) (pg_func Try.func19) rfl rfl (fun w Sh H ρ vs h => ?_) (fun w S => by simp only [RepT]) fun w => ?_
  · match vs, h with
    | [v, v'], h =>
      simp only [RepTs, RepT] at h
      obtain ⟨_, _, rfl, ⟨_, _, rfl, _⟩, _⟩ := h
      rfl
    | [], h => simp only [RepTs] at h
    | [_], h => simp only [RepTs] at h; obtain ⟨_, _, _, h, _⟩ := h; exact h.elim
    | _ :: _ :: _ :: _, h => simp only [RepTs] at h; obtain ⟨_, _, _, ⟨_, _, _, h, _⟩, _⟩ := h; exact h.elim
  · have := Any.strings_Repeat lays_n105 lays_X ⟨s.toArray⟩ c w hc hl
    rw [pg_eq]
    exact this

def cutF (old : List UInt8) (size : Int) : List UInt8 := bif withinF size 0 100000 then (if size ≤ old.length then old.take size.toNat else old ++ List.replicate (size.toNat - old.length) 0) else old
theorem withinF_iff {n lo hi : Int} : withinF n lo hi = true ↔ lo ≤ n ∧ n ≤ hi := by simp [withinF]
theorem sub_lens {n r : Int} {s : List UInt8} (e : iop .sub .i64 n (slen s) = r) (h1 : n ≤ 1048576) (h2 : (s.length : Int) ≤ n) : r = ((n.toNat - s.length : Nat) : Int) := by
  rw [← e, iop_sub, slen_eq, wrap_i64 (by omega) (by omega)]
  omega
theorem zeros_eq (n : Nat) : rep_ (n : Int) [V.i .u8 0] = (List.replicate n (0 : UInt8)).map fun b => [V.i .u8 b.toNat] := by
  rw [rep_eq]; simp
theorem isB_zeros (n : Nat) : IsB (rep_ (n : Int) [V.i .u8 0]) := by rw [IsB_eq]; exact ⟨_, zeros_eq n⟩
theorem unb_zeros (n : Nat) : unb (rep_ (n : Int) [V.i .u8 0]) = List.replicate n 0 := by rw [zeros_eq, unb_bys]
theorem repeat_zeros (n : Nat) : Lib.repeatL [0] n = List.replicate n 0 := by
  have := Lib.repeatL_replicate 0 1 n
  simpa using this
theorem room_len {a b : List UInt8} (h : a.length + b.length ≤ 1048576) : Room (plus (slen a) (slen b)) 1 := by
  rw [Room_eq, plus_eq, slen_eq, slen_eq]; omega
theorem ret_Cut (old : List UInt8) (size : Int) : Ret pg 12 true [.s old, .i .i64 size] [] (.s (cutF old size)) := by
  generalize hr : V.s (cutF old size) = r
  refine ret0 Try.func12 rfl (by decide +kernel) rfl (hr ▸ trivial) ?_
  cbv; simp only [F]
  refine call_within fun b hb => ?_
  cases b <;> cbv <;> simp only [F]
  · exact LeV.ts hr (by simp [cutF, hb])
  have hb' := withinF_iff.1 hb
  split <;> (rename_i h; simp only [h]; cbv; simp only [F]) <;> rw [icmp_lss, slen_eq] at h <;> simp only [decide_eq_true_eq, decide_eq_false_iff_not] at h
  · generalize e1 : iop .sub .i64 size (slen old) = d
    have q1 := sub_lens e1 (by omega) (by omega)
    have g1 : old.length < size.toNat := by omega
    have g2 : size.toNat ≤ 100000 := by omega
    rw [q1]
    clear q1 h hb'
    refine CallK.intro (ret_Repeat [0] _ (by omega) (by simp; omega)) ?_
    rw [repeat_zeros]
    generalize hz : List.replicate (size.toNat - old.length) (0 : UInt8) = z
    cbv; simp only [F]
    have hzl : z.length = size.toNat - old.length := by rw [← hz]; simp
    refine ⟨room_len (by omega), LeV.ts hr ?_⟩
    rw [sapp_eq, cutF, hb, cond_true, if_neg (by omega), hz]
  · refine ⟨by rw [InS_eq, slen_eq]; omega, LeV.ts hr ?_⟩
    rw [ssub_eq, cutF, hb, cond_true, if_pos (by omega)]; simp
theorem ret_CutS (old : List UInt8) (size : Int) : Ret pg 11 true [.s old, .i .i64 size] [] (.s (cutF old size)) := by
  generalize hr : V.s (cutF old size) = r
  refine ret0 Try.func11 rfl (by decide +kernel) rfl (hr ▸ trivial) ?_
  cbv; simp only [F]
  refine call_l1In fun b hb => ?_
  cases b <;> cbv <;> simp only [F]
  · exact LeV.ts hr (by simp [cutF, hb])
  have hb' := withinF_iff.1 hb
  split <;> (rename_i h; simp only [h]; cbv; simp only [F]) <;> rw [icmp_leq, slen_eq] at h <;> simp only [decide_eq_true_eq, decide_eq_false_iff_not] at h
  · refine ⟨by rw [InS_eq, slen_eq]; omega, LeV.ts hr ?_⟩
    rw [ssub_eq, cutF, hb, cond_true, if_pos (by omega)]; simp
  · generalize e1 : iop .sub .i64 size (slen old) = d
    have q1 := sub_lens e1 (by omega) (by omega)
    rw [q1, unb_zeros]
    have hzl : (List.replicate (size.toNat - old.length) (0 : UInt8)).length = size.toNat - old.length := by simp
    refine ⟨by rw [InS_eq]; omega, by rw [Room_eq]; omega, isB_zeros _, room_len (by omega), LeV.ts hr ?_⟩
    rw [sapp_eq, cutF, hb, cond_true, if_neg (by omega)]

theorem scmp_neq_self (a : List UInt8) : scmp .neq a a = false := by rw [scmp_neq]; simp
theorem ret_FnExactCut (old : List UInt8) (size : Int) (h0 : old.length ≤ maxLen) (h1 : (Lit.int .i64 size).wf = true) : Ret pg 4 true [.s old, .i .i64 size] [] (.b true) := by
  refine ret_eq fun r hr => ?_
  refine ret0 Try.func4 rfl (by decide +kernel) rfl (hr ▸ trivial) ?_
  clear h0 h1
  cbv; simp only [F]
  split <;> (rename_i h; simp only [h]; cbv; simp only [F])
  · exact LeV.tb hr rfl
  refine CallK.intro (ret_CutS old size) ?_
  generalize hx : cutF old size = x
  cbv; simp only [F]
  refine CallK.intro (ret_Cut old size) ?_
  rw [hx]
  cbv; simp only [F]
  simp only [scmp_neq_self]; cbv; simp only [F]
  exact LeV.tb hr rfl
end Go.Ar
