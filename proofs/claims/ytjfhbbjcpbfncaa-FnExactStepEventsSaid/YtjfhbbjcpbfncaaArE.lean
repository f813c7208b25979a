import Derived.Test.YtjfhbbjcpbfncaaArD
import Derived.Laws.Cover3
import Derived.Laws.StructEq
namespace Go.Ar
set_option linter.unusedVariables false
set_option linter.unusedSimpArgs false

section ops
variable {E : Env} {c : Cx} {o : Oper}

/-! ### Arithmetic, comparisons -/
noncomputable def binA (E : Env) (st : St) (op : BinOp) (t : Nat) (x y : V) (K : V → Prop) : Prop :=
  match x, y with
  | .i k a, .i k' b =>
    (match op with
    | .add => bif kEq k k' then K (.i k (iop .add k a b)) else False
    | .sub => bif kEq k k' then K (.i k (iop .sub k a b)) else False
    | .mul => bif kEq k k' then K (.i k (iop .mul k a b)) else False
    | .and => bif kEq k k' then K (.i k (iop .and k a b)) else False
    | .or => bif kEq k k' then K (.i k (iop .or k a b)) else False
    | .xor => bif kEq k k' then K (.i k (iop .xor k a b)) else False
    | .andNot => bif kEq k k' then K (.i k (iop .andNot k a b)) else False
    | .quo => bif kEq k k' then icmp .neq b 0 = true ∧ K (.i k (iop .quo k a b)) else False
    | .rem => bif kEq k k' then icmp .neq b 0 = true ∧ K (.i k (iop .rem k a b)) else False
    | .shl => icmp .geq b 0 = true ∧ K (.i k (iop .shl k a b))
    | .shr => icmp .geq b 0 = true ∧ K (.i k (iop .shr k a b))
    | .eql => bif kEq k k' then K (.b (icmp .eql a b)) else False
    | .neq => bif kEq k k' then K (.b (icmp .neq a b)) else False
    | .lss => bif kEq k k' then K (.b (icmp .lss a b)) else False
    | .leq => bif kEq k k' then K (.b (icmp .leq a b)) else False
    | .gtr => bif kEq k k' then K (.b (icmp .gtr a b)) else False
    | .geq => bif kEq k k' then K (.b (icmp .geq a b)) else False
    )
  | .s a, .s b =>
    (match op with
    | .add => Room (plus (slen a) (slen b)) 1 ∧ K (.s (sapp a b))
    | .eql => K (.b (scmp .eql a b))
    | .neq => K (.b (scmp .neq a b))
    | .lss => K (.b (scmp .lss a b))
    | .leq => K (.b (scmp .leq a b))
    | .gtr => K (.b (scmp .gtr a b))
    | .geq => K (.b (scmp .geq a b))
    | _ => False)
  | .b a, .b b =>
    (match (E.ti t).k, op with
    | .bool, .eql => K (.b (a == b))
    | .bool, .neq => K (.b (!(a == b)))
    | _, _ => False)
  | x, .nil =>
    (match (E.ti t).k, op with
    | .slice _, .eql => slK E st x fun xs => ∀ n : Bool, (n = true → xs = []) → (x = .nil → n = true) → K (.b n)
    | .slice _, .neq => slK E st x fun xs => ∀ n : Bool, (n = true → xs = []) → (x = .nil → n = true) → K (.b (!n))
    | _, _ => False)
  | _, _ => False

theorem eqGuard_run {P : Program} {w : World} {op : BinOp} {t : TypeId} {x y : Operand} {a b : Value} (ha : a.oneCell' = true) (hn : a ≠ .nilIface) : (eqGuard op t x y a b).run P w = .ok () w := by
  cases a with
  | nilIface => exact absurd rfl hn
  | agg cs => simp [Value.oneCell'] at ha
  | tuple cs => simp [Value.oneCell'] at ha
  | _ => cases op <;> rfl

theorem bin_int {P : Program} {w : World} {op : BinOp} {t : TypeId} {k : IntKind} {a b : Int} (hop : op ≠ .shl ∧ op ≠ .shr ∧ op ≠ .quo ∧ op ≠ .rem) :
    (binOp op t (.int k a) (.int k b)).run P w = .ok (match op with | .eql | .neq | .lss | .leq | .gtr | .geq => .bool (icmpF op a b) | _ => .int k (iopF op k a b)) w := by
  obtain ⟨h1, h2, h3, h4⟩ := hop
  cases op
  case shl => exact absurd rfl h1
  case shr => exact absurd rfl h2
  case quo => exact absurd rfl h3
  case rem => exact absurd rfl h4
  all_goals simp [binOp, Op.intArith, Op.intBits, Op.intCmp, icmpF, iopF]

theorem str_fact {l : List UInt8} : (⟨l.toArray⟩ : ByteArray).toList = l := by
  rw [ByteArray.toList_eq]

theorem bin_bool {P : Program} {w : World} {t : TypeId} {p q : Bool} (hu : P.underlying t = some .bool) :
    (binOp .eql t (.bool p) (.bool q)).run P w = .ok (.bool (p == q)) w ∧ (binOp .neq t (.bool p) (.bool q)).run P w = .ok (.bool (!(p == q))) w := by
  have h : (Op.equal t (.bool p) (.bool q)).run P w = .ok (p == q) w := run_equalIn_bool w 9999 t p q hu
  constructor
  · show ((Op.equal t (.bool p) (.bool q)) >>= fun b => (pure (Value.bool b) : Sem Value)).run P w = _
    rw [Sem.run_bind, h]; rfl
  · show ((Op.equal t (.bool p) (.bool q)) >>= fun b => (pure (Value.bool (!b)) : Sem Value)).run P w = _
    rw [Sem.run_bind, h]; rfl

theorem bin_nil {P : Program} {w : World} {t e : TypeId} {al : Option Addr} {n cc : Nat} (hu : P.underlying t = some (.slice e)) :
    (binOp .eql t (.slice al n cc) (.slice none 0 0)).run P w = .ok (.bool al.isNone) w ∧ (binOp .neq t (.slice al n cc) (.slice none 0 0)).run P w = .ok (.bool (!al.isNone)) w := by
  have h : (Op.equal t (.slice al n cc) (.slice none 0 0)).run P w = .ok al.isNone w := run_equal_slice_nil w t e al n cc hu
  constructor
  · show ((Op.equal t (.slice al n cc) (.slice none 0 0)) >>= fun b => (pure (Value.bool b) : Sem Value)).run P w = _
    rw [Sem.run_bind, h]; rfl
  · show ((Op.equal t (.slice al n cc) (.slice none 0 0)) >>= fun b => (pure (Value.bool (!b)) : Sem Value)).run P w = _
    rw [Sem.run_bind, h]; rfl

theorem binA_sound (hE : EnvOk E) (hfit : Fit E c) {op : BinOp} {t yt : Nat} {x y : Operand} (ho : o.op = .binOp op t x y yt) : OpQ E c o fun st K => binA E st op t (ev st x) (ev st y) K := by
  intro st a w G K N Q h hk hN
  obtain ⟨Tx, hx⟩ := h.ev x
  obtain ⟨Ty, hy⟩ := h.ev y
  have hrun : ∀ (v : V) (u : Value), (eqGuard op t x y (a.eval x) (a.eval y)).run E.P w = .ok () w → (binOp op t (a.eval x) (a.eval y)).run E.P w = .ok u w → RepT w G.Sh (Ar.rho c G) v u (fun _ => False) → K v → o.wp E.P a w N Q := by
    intro v u hg hb hv hkk
    have hG := h.rep0 hv
    refine wp_value (v := u) (w' := w) ?_ (hN _ _ _ _ hkk (RowKit.Below.refl _ _) hG noneT)
    simp [execOp, ho, hg, hb]
  unfold binA at hk
  split at hk
  · rename_i k n k' m e1 e2
    rw [e1] at hx
    rw [e2] at hy
    have hx : a.eval x = .int k n := hx
    have hy : a.eval y = .int k' m := hy
    have hg : ∀ op, (eqGuard op t x y (a.eval x) (a.eval y)).run E.P w = .ok () w := fun op => eqGuard_run (by rw [hx]; rfl) (by rw [hx]; simp)
    cases op
    case shl =>
      simp only at hk
      obtain ⟨h1, h2⟩ := hk
      rw [icmp_eq] at h1
      rw [iop_eq] at h2
      have h0 : ¬ m < 0 := by simp [icmpF] at h1; omega
      exact hrun (.i k (iopF .shl k n m)) (.int k (iopF .shl k n m)) (hg _) (by rw [hx, hy]; simp [binOp, Op.shift, h0, iopF]) rfl h2
    case shr =>
      simp only at hk
      obtain ⟨h1, h2⟩ := hk
      rw [icmp_eq] at h1
      rw [iop_eq] at h2
      have h0 : ¬ m < 0 := by simp [icmpF] at h1; omega
      exact hrun (.i k (iopF .shr k n m)) (.int k (iopF .shr k n m)) (hg _) (by rw [hx, hy]; simp [binOp, Op.shift, h0, iopF]) rfl h2
    case quo =>
      simp only at hk
      cases hkk : kEq k k' with
      | false => rw [hkk] at hk; exact hk.elim
      | true =>
        rw [hkk] at hk
        obtain rfl := kEq_iff hkk
        obtain ⟨h1, h2⟩ := hk
        rw [icmp_eq] at h1
        rw [iop_eq] at h2
        have h0 : ¬ m = 0 := by simpa [icmpF] using h1
        exact hrun (.i k (iopF .quo k n m)) (.int k (iopF .quo k n m)) (hg _) (by rw [hx, hy]; simp [binOp, Op.intDiv, h0, iopF]) rfl h2
    case rem =>
      simp only at hk
      cases hkk : kEq k k' with
      | false => rw [hkk] at hk; exact hk.elim
      | true =>
        rw [hkk] at hk
        obtain rfl := kEq_iff hkk
        obtain ⟨h1, h2⟩ := hk
        rw [icmp_eq] at h1
        rw [iop_eq] at h2
        have h0 : ¬ m = 0 := by simpa [icmpF] using h1
        exact hrun (.i k (iopF .rem k n m)) (.int k (iopF .rem k n m)) (hg _) (by rw [hx, hy]; simp [binOp, Op.intDiv, h0, iopF]) rfl h2
    all_goals
      simp only at hk
      cases hkk : kEq k k' with
      | false => rw [hkk] at hk; exact hk.elim
      | true =>
        rw [hkk] at hk
        obtain rfl := kEq_iff hkk
        simp only [cond_true] at hk
        rw [hx, hy] at hrun
        first
        | (rw [iop_eq] at hk
           exact hrun (.i k (iopF _ k n m)) _ (eqGuard_run rfl (by simp)) (bin_int ⟨by simp, by simp, by simp, by simp⟩) rfl hk)
        | (rw [icmp_eq] at hk
           exact hrun (.b (icmpF _ n m)) _ (eqGuard_run rfl (by simp)) (bin_int ⟨by simp, by simp, by simp, by simp⟩) rfl hk)
  · rename_i l m e1 e2
    rw [e1] at hx
    rw [e2] at hy
    have hx : a.eval x = .string ⟨l.toArray⟩ := hx
    have hy : a.eval y = .string ⟨m.toArray⟩ := hy
    rw [hx, hy] at hrun
    have hg : ∀ op, (eqGuard op t x y (.string ⟨l.toArray⟩) (.string ⟨m.toArray⟩)).run E.P w = .ok () w := fun op => eqGuard_run rfl (by simp)
    cases op
    case add =>
      simp only at hk
      obtain ⟨h1, h2⟩ := hk
      rw [Room_eq, plus_eq, slen_eq, slen_eq] at h1
      rw [sapp_eq] at h2
      refine hrun (.s (l ++ m)) (.string ⟨(l ++ m).toArray⟩) (hg _) ?_ rfl h2
      have hs1 : (⟨l.toArray⟩ : ByteArray).size = l.length := by show l.toArray.size = _; simp
      have hs2 : (⟨m.toArray⟩ : ByteArray).size = m.length := by show m.toArray.size = _; simp
      have hmax : IntKind.i64.max = 9223372036854775807 := rfl
      have hle : ¬ (((l.length + m.length : Nat) : Int) > IntKind.i64.max) := by rw [hmax]; omega
      have happ : (⟨l.toArray⟩ ++ ⟨m.toArray⟩ : ByteArray) = ⟨(l ++ m).toArray⟩ := by
        apply ByteArray.ext
        simp [ByteArray.data_append]
      simp only [binOp, Op.stringOp, hs1, hs2, if_neg hle, Sem.run_pure, happ]
    all_goals simp only at hk
    all_goals first
      | exact hk.elim
      | (rw [scmp_eq] at hk
         refine hrun (.b (scmpF _ l m)) (.bool (scmpF _ l m)) (hg _) ?_ rfl hk
         simp only [binOp, Op.stringOp, Sem.run_pure, str_fact, scmpF])
  · rename_i p q e1 e2
    rw [e1] at hx
    rw [e2] at hy
    have hx : a.eval x = .bool p := hx
    have hy : a.eval y = .bool q := hy
    rw [hx, hy] at hrun
    have hg : ∀ op, (eqGuard op t x y (.bool p) (.bool q)).run E.P w = .ok () w := fun op => eqGuard_run rfl (by simp)
    split at hk
    · rename_i hks
      have hu := (hE t (by rw [hks]; rfl)).und
      rw [hks] at hu
      have hu : E.P.underlying t = some .bool := hu
      exact hrun (.b (p == q)) (.bool (p == q)) (hg _) (bin_bool hu).1 rfl hk
    · rename_i hks
      have hu := (hE t (by rw [hks]; rfl)).und
      rw [hks] at hu
      have hu : E.P.underlying t = some .bool := hu
      exact hrun (.b (!(p == q))) (.bool (!(p == q))) (hg _) (bin_bool hu).2 rfl hk
    · exact hk.elim
  · rename_i e2
    rw [e2] at hy
    have hy : a.eval y = .slice none 0 0 := hy
    split at hk
    · rename_i ee hks
      have hu := (hE t (by rw [hks]; rfl)).und
      rw [hks] at hu
      have hu : E.P.underlying t = some (.slice ee) := hu
      obtain ⟨xs, al, n, cc, k1, k2, k3, k4, k5⟩ := slK_sound h hfit hx hk
      rw [k2, hy] at hrun
      refine hrun (.b al.isNone) (.bool al.isNone) (eqGuard_run rfl (by simp)) (bin_nil hu).1 rfl (k1 _ (fun e => k5 (by simpa using e)) (fun e => ?_))
      rw [e] at hx
      have hx' : a.eval x = .slice none 0 0 := hx
      rw [k2] at hx'
      injection hx' with e1 _ _
      rw [e1]; rfl
    · rename_i ee hks
      have hu := (hE t (by rw [hks]; rfl)).und
      rw [hks] at hu
      have hu : E.P.underlying t = some (.slice ee) := hu
      obtain ⟨xs, al, n, cc, k1, k2, k3, k4, k5⟩ := slK_sound h hfit hx hk
      rw [k2, hy] at hrun
      refine hrun (.b (!al.isNone)) (.bool (!al.isNone)) (eqGuard_run rfl (by simp)) (bin_nil hu).2 rfl (k1 _ (fun e => k5 (by simpa using e)) (fun e => ?_))
      rw [e] at hx
      have hx' : a.eval x = .slice none 0 0 := hx
      rw [k2] at hx'
      injection hx' with e1 _ _
      rw [e1]; rfl
    · exact hk.elim
  · exact hk.elim
end ops
end Go.Ar
