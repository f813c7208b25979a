import Derived.Test.YtogidplgdeghgaaGreatArKD
import Derived.Test.YtogidplgdeghgaaGreatArPk
import Derived.Test.YtogidplgdeghgaaGreatArGt
section
namespace Go.Ar
open Go.Proofs
set_option linter.unusedVariables false
set_option linter.unusedSimpArgs false
set_option maxRecDepth 20000
/-! ### Nodes -/
theorem i_within (n lo hi : Int) : iwithin n lo hi = some (tb (lo ≤ n ∧ n ≤ hi)) := by
 unfold iwithin; simp only [PN]
 by_cases h : lo ≤ n
 ·rw [if_pos h]; exact tb_some ⟨fun h2 => ⟨h, h2⟩, fun h2 => h2.2⟩
 ·rw [if_neg h]; exact some_tb (iff_of_false (by simp) (fun h2 => h h2.1))
theorem s_l1In (n lo hi : Int) : sl1In n lo hi = some (tb (lo ≤ n ∧ n ≤ hi)) := i_within n lo hi
def blocksFor (n : Int) : Int := if n ≤ 0 then 0 else if 80 < n then 5 else (n + 15) / 16
theorem blocksFor_le (n : Int) : 0 ≤ blocksFor n ∧ blocksFor n ≤ 5 := by unfold blocksFor; split <;> (try split) <;> omega
theorem quo_16 {n : Int} (h : 0 < n) (h1 : n ≤ 1000) : iop .quo .i64 (iop .sub .i64 (iop .add .i64 n 16) 1) 16 = (n + 15) / 16 := by
 rw [iadd (by omega), isub (by omega), iquo (by omega) (by omega) (by omega)]
 rw [show n + 16 - 1 = n + 15 by omega]
theorem i_BlocksFor (n : Int) : iBlocksFor n = some (blocksFor n) := by
 unfold iBlocksFor blocksFor; simp only [PN]
 by_cases h : n ≤ 0
 ·rw [if_pos h, if_pos h]
 ·rw [if_neg h, if_neg h]
  by_cases h2 : 80 < n
  ·rw [if_pos h2, if_pos h2]
  ·rw [if_neg h2, if_neg h2, quo_16 (by omega) (by omega)]
theorem s_BlocksFor (n : Int) : sBlocksFor n = some (blocksFor n) := by
 unfold sBlocksFor blocksFor; simp only [PN]
 by_cases h : n ≤ 0
 ·rw [if_pos h, if_pos h]
 ·rw [if_neg h, if_neg h]
  by_cases h2 : 80 ≤ n
  ·rw [if_pos h2]
   split
   ·rfl
   ·obtain rfl : n = 80 := by omega
    rfl
  ·rw [if_neg h2, if_neg (by omega), quo_16 (by omega) (by omega)]
theorem g_Contains {l : List Int} (hl : l.length < 4611686018427387904) (x : Int) : gslices_Contains_int l x = some (tb (x ∈ l)) := by
 unfold gslices_Contains_int gslices_Index_int; simp only [PN]
 rw [bnd_assoc]
 refine bnd_first (fun i : Nat => (i : Int)) l (fun i y => ¬ x = y) (fun i _ => .inr (i : Int)) (.inl ()) rfl (fun i y hy _ h => ?_) (fun i y hy _ h => ?_) (fun h => ?_) (fun h => ?_) (fun k y hy hn hj => ?_)
 ·have := len_lt hy
  rw [if_pos (by omega), gt_ok hy, bsome, if_neg h, ir_add1 (by omega)]
 ·have := len_lt hy
  rw [if_pos (by omega), gt_ok hy, bsome, if_pos (Classical.not_not.1 h)]
 ·rw [if_neg (by omega)]
 ·exact tb_some (iff_of_false (by omega) fun h2 => by
   obtain ⟨i, hi⟩ := List.mem_iff_getElem?.1 h2
   exact h i x hi rfl)
 ·obtain rfl := Classical.not_not.1 hn
  exact tb_some (iff_of_true (by omega) (List.mem_of_getElem? hy))
theorem s_l1Has {l : List Int} (hl : l.length < 4611686018427387904) (x : Int) : sl1Has l x = some (tb (x ∈ l)) := by
 unfold sl1Has; simp only [PN]
 refine bnd_first (fun i : Nat => (i : Int)) l (fun i y => ¬ y = x) (fun _ _ => .inr true) (.inl ()) rfl (fun i y hy _ h => ?_) (fun i y hy _ h => ?_) (fun h => ?_) (fun h => ?_) (fun k y hy hn hj => ?_)
 ·have := len_lt hy
  rw [if_pos (by omega), gt_ok hy, bsome, if_neg h, ir_add1 (by omega)]
 ·have := len_lt hy
  rw [if_pos (by omega), gt_ok hy, bsome, if_pos (Classical.not_not.1 h)]
 ·rw [if_neg (by omega)]
 ·refine some_tb (iff_of_false (by simp) fun h2 => ?_)
  obtain ⟨i, hi⟩ := List.mem_iff_getElem?.1 h2
  exact h i x hi rfl
 ·obtain rfl := Classical.not_not.1 hn
  exact some_tb (iff_of_true rfl (List.mem_of_getElem? hy))
def BlocksOk (l : List Int) : Prop := ∀ i b, l[i]? = some b → (0 ≤ b ∧ b ≤ 35) ∧ ¬ b ∈ l.take i
def NodeOk (n : NodeD) : Prop :=
 (n.kind = 0 ∧ n.gen = 0 ∧ n.time = 0 ∧ n.size = 0 ∧ (n.blocks.length : Int) = 0) ∨
 (¬ n.kind = 0 ∧ (1 ≤ n.kind ∧ n.kind ≤ 3) ∧ (0 ≤ n.gen ∧ n.gen ≤ 1000000) ∧ (0 ≤ n.time ∧ n.time ≤ 100000) ∧ (0 ≤ n.size ∧ n.size ≤ 80) ∧
  (n.kind = 2 → n.gen = 0 ∧ n.time = 0) ∧ (n.blocks.length : Int) = blocksFor n.size ∧ BlocksOk n.blocks)
theorem NodeOk.len {n : NodeD} (h : NodeOk n) : n.blocks.length ≤ 5 := by
 have := blocksFor_le n.size
 rcases h with h | h
 ·omega
 ·omega
theorem NodeOk.blk {n : NodeD} (h : NodeOk n) : BlocksOk n.blocks := by
 rcases h with h | h
 ·intro i b hb; have := len_lt hb; omega
 ·exact h.2.2.2.2.2.2.2
theorem i_blocks {l : List Int} (hl : l.length ≤ 5) {α : Type} {K : Unit ⊕ Bool → Option α} : bnd (lp (σ := Int) (ρ := (Unit) ⊕ (Bool)) (fun s48 =>
 cond (icmp .lss s48 (ln l)) (
 bnd (gt l s48) fun y49 =>
 bnd (iwithin y49 0 35) fun r50 =>
 cond r50 (
 ck (InS 0 s48 (ln l)) <|
 bnd (gslices_Contains_int (sb l 0 s48) y49) fun r51 =>
 cond r51 (
 some (.inr (.inr (false)))) (
 some (.inl (iop .add .i64 s48 1)))) (
 some (.inr (.inr (false))))) (
 some (.inr (.inl ())))) 0) K = @ite _ (BlocksOk l) (Classical.propDecidable _) (K (.inl ())) (K (.inr false)) := by
 refine bnd_lp (lp_allL (fun i : Nat => (i : Int)) l (fun i b => (0 ≤ b ∧ b ≤ 35) ∧ ¬ b ∈ l.take i) (.inr false) (.inl ()) rfl (fun i y hy _ h => ?_) (fun i y hy _ h => ?_) (fun h => ?_)) ?_
 ·have := len_lt hy
  simp only [PN, gt_ok hy, i_within]
  rw [if_pos (by omega), if_pos h.1, ck_in (ins (by omega)), sb_to, g_Contains (by simp; omega)]
  simp only [PN]
  rw [if_neg h.2, ir_add1 (by omega)]
 ·have := len_lt hy
  simp only [PN, gt_ok hy, i_within]
  rw [if_pos (by omega)]
  by_cases h1 : 0 ≤ y ∧ y ≤ 35
  ·rw [if_pos h1, ck_in (ins (by omega)), sb_to, g_Contains (by simp; omega)]
   simp only [PN]
   rw [if_pos (Classical.not_not.1 fun hn => h ⟨h1, hn⟩)]
  ·rw [if_neg h1]
 ·simp only [PN]
  rw [if_neg (by omega)]
 ·unfold BlocksOk; split <;> rfl
theorem i_NodeOk (n : NodeD) : iNodeOk n = some (tb (NodeOk n)) := by
 unfold iNodeOk
 have hb := blocksFor_le n.size
 by_cases hl : (n.blocks.length : Int) = blocksFor n.size
 ·rw [i_blocks (by omega)]
  simp only [PN, i_within, i_BlocksFor, bite, Sum.elim_inl, Sum.elim_inr]
  unfold NodeOk
  refine if_2 (fun h0 => ?_) (fun h0 => ?_)
  ·refine if_tb (fun h1 => if_tb (fun h2 => if_tb (fun h3 => tb_some ?_) ?_) ?_) ?_ <;> omega
  ·refine if_tb (fun h1 => if_tb (fun h2 => if_tb (fun h3 => if_tb (fun h4 => ?_) ?_) ?_) ?_) ?_
   ·refine if_2 (fun h5 => if_tbn (fun h6 => ?_) (fun h6 => if_tbn (fun h7 => ?_) (fun h7 => if_tbn (fun h8 => ?_) (fun h8 => if_2 (fun h9 => ?_) (fun h9 => ?_))))) (fun h5 => if_tbn (fun h8 => ?_) (fun h8 => if_2 (fun h9 => ?_) (fun h9 => ?_)))
    ·rintro (h | h) <;> omega
    ·rintro (h | h) <;> omega
    ·rintro (h | h) <;> omega
    ·exact some_tb (iff_of_true rfl (.inr ⟨h0, h1, h2, h3, h4, by omega, hl, h9⟩))
    ·exact some_tb (iff_of_false (by simp) (fun h => h.elim (fun h => h0 h.1) (fun h => h9 h.2.2.2.2.2.2.2)))
    ·rintro (h | h) <;> omega
    ·exact some_tb (iff_of_true rfl (.inr ⟨h0, h1, h2, h3, h4, by omega, hl, h9⟩))
    ·exact some_tb (iff_of_false (by simp) (fun h => h.elim (fun h => h0 h.1) (fun h => h9 h.2.2.2.2.2.2.2)))
   all_goals (intro hn; rintro (h | h) <;> omega)
 ·simp only [PN, i_within, i_BlocksFor, bite, Sum.elim_inl, Sum.elim_inr]
  unfold NodeOk
  refine if_2 (fun h0 => ?_) (fun h0 => ?_)
  ·refine if_tb (fun h1 => if_tb (fun h2 => if_tb (fun h3 => tb_some ?_) ?_) ?_) ?_ <;> omega
  ·refine if_tb (fun h1 => if_tb (fun h2 => if_tb (fun h3 => if_tb (fun h4 => ?_) ?_) ?_) ?_) ?_
   ·refine if_2 (fun h5 => if_tbn (fun h6 => ?_) (fun h6 => if_tbn (fun h7 => ?_) (fun h7 => if_tbn (fun h8 => ?_) (fun h8 => absurd hl h8)))) (fun h5 => if_tbn (fun h8 => ?_) (fun h8 => absurd hl h8)) <;> (rintro (h | h) <;> omega)
   all_goals (intro hn; rintro (h | h) <;> omega)
theorem s_blocks {l : List Int} (hl : l.length ≤ 5) {α : Type} {K : Unit ⊕ Bool → Option α} : bnd (lp (σ := Int) (ρ := (Unit) ⊕ (Bool)) (fun s45 =>
 cond (icmp .lss s45 (ln l)) (
 bnd (gt l s45) fun y46 =>
 bnd (sl1In y46 0 35) fun r47 =>
 cond r47 (
 ck (InS 0 s45 (ln l)) <|
 bnd (sl1Has (sb l 0 s45) y46) fun r48 =>
 cond r48 (
 some (.inr (.inr (false)))) (
 some (.inl (iop .add .i64 s45 1)))) (
 some (.inr (.inr (false))))) (
 some (.inr (.inl ())))) 0) K = @ite _ (BlocksOk l) (Classical.propDecidable _) (K (.inl ())) (K (.inr false)) := by
 refine bnd_lp (lp_allL (fun i : Nat => (i : Int)) l (fun i b => (0 ≤ b ∧ b ≤ 35) ∧ ¬ b ∈ l.take i) (.inr false) (.inl ()) rfl (fun i y hy _ h => ?_) (fun i y hy _ h => ?_) (fun h => ?_)) ?_
 ·have := len_lt hy
  simp only [PN, gt_ok hy, s_l1In]
  rw [if_pos (by omega), if_pos h.1, ck_in (ins (by omega)), sb_to, s_l1Has (by simp; omega)]
  simp only [PN]
  rw [if_neg h.2, ir_add1 (by omega)]
 ·have := len_lt hy
  simp only [PN, gt_ok hy, s_l1In]
  rw [if_pos (by omega)]
  by_cases h1 : 0 ≤ y ∧ y ≤ 35
  ·rw [if_pos h1, ck_in (ins (by omega)), sb_to, s_l1Has (by simp; omega)]
   simp only [PN]
   rw [if_pos (Classical.not_not.1 fun hn => h ⟨h1, hn⟩)]
  ·rw [if_neg h1]
 ·simp only [PN]
  rw [if_neg (by omega)]
 ·unfold BlocksOk; split <;> rfl
theorem s_NodeOk (n : NodeD) : sNodeOk n = some (tb (NodeOk n)) := by
 unfold sNodeOk
 have hb := blocksFor_le n.size
 by_cases hl : (n.blocks.length : Int) = blocksFor n.size
 ·rw [s_blocks (by omega)]
  simp only [PN, s_l1In, s_BlocksFor, bite, Sum.elim_inl, Sum.elim_inr]
  unfold NodeOk
  refine if_2 (fun h0 => ?_) (fun h0 => ?_)
  ·refine if_tb (fun h1 => if_tb (fun h2 => if_tb (fun h3 => tb_some ?_) ?_) ?_) ?_ <;> omega
  ·refine if_tb (fun h1 => if_tb (fun h2 => if_tb (fun h3 => if_tb (fun h4 => if_tbn (fun h8 => absurd hl h8) (fun h8 => ?_)) ?_) ?_) ?_) ?_
   ·refine if_2 (fun h5 => if_tbn (fun h6 => ?_) (fun h6 => if_tbn (fun h7 => ?_) (fun h7 => if_2 (fun h9 => ?_) (fun h9 => ?_)))) (fun h5 => if_2 (fun h9 => ?_) (fun h9 => ?_))
    ·rintro (h | h) <;> omega
    ·rintro (h | h) <;> omega
    ·exact some_tb (iff_of_true rfl (.inr ⟨h0, h1, h2, h3, h4, by omega, hl, h9⟩))
    ·exact some_tb (iff_of_false (by simp) (fun h => h.elim (fun h => h0 h.1) (fun h => h9 h.2.2.2.2.2.2.2)))
    ·exact some_tb (iff_of_true rfl (.inr ⟨h0, h1, h2, h3, h4, by omega, hl, h9⟩))
    ·exact some_tb (iff_of_false (by simp) (fun h => h.elim (fun h => h0 h.1) (fun h => h9 h.2.2.2.2.2.2.2)))
   all_goals (intro hn; rintro (h | h) <;> omega)
 ·simp only [PN, s_l1In, s_BlocksFor, bite, Sum.elim_inl, Sum.elim_inr]
  unfold NodeOk
  refine if_2 (fun h0 => ?_) (fun h0 => ?_)
  ·refine if_tb (fun h1 => if_tb (fun h2 => if_tb (fun h3 => tb_some ?_) ?_) ?_) ?_ <;> omega
  ·refine if_tb (fun h1 => if_tb (fun h2 => if_tb (fun h3 => if_tb (fun h4 => if_tbn (fun h8 => ?_) (fun h8 => absurd hl h8)) ?_) ?_) ?_) ?_
   all_goals (intro hn; first | (rcases hn with h | h <;> omega) | (rintro (h | h) <;> omega))
/-! ### Encoded numbers -/
def putNat (n : Nat) : List UInt8 := if n < 128 then [UInt8.ofNat n] else UInt8.ofNat (n % 128 + 128) :: putNat (n / 128)
theorem putNat_lt {n : Nat} (h : n < 128) : putNat n = [UInt8.ofNat n] := by rw [putNat, if_pos h]
theorem putNat_ge {n : Nat} (h : 128 ≤ n) : putNat n = UInt8.ofNat (n % 128 + 128) :: putNat (n / 128) := by rw [putNat, if_neg (by omega)]
theorem putNat_len {n : Nat} (h : n ≤ 2147483647) : (putNat n).length ≤ 5 := by
 have h1 : ∀ m, m < 128 → (putNat m).length ≤ 1 := fun m hm => by rw [putNat_lt hm]; simp
 have h2 : ∀ k m, (∀ x, x < k → (putNat x).length ≤ m) → ∀ x, x < k * 128 → (putNat x).length ≤ m + 1 := by
  intro k m hk x hx
  by_cases hx2 : x < 128
  ·have := h1 x hx2; omega
  ·rw [putNat_ge (by omega)]
   have := hk (x / 128) (by omega)
   simp; omega
 exact h2 _ 4 (h2 _ 3 (h2 _ 2 (h2 _ 1 h1))) n (by omega)
noncomputable def putNum (n : Int) : List UInt8 := if 0 ≤ n ∧ n ≤ 2147483647 then putNat n.toNat else []
theorem putNum_len (n : Int) : (putNum n).length ≤ 5 := by
 unfold putNum; split
 ·exact putNat_len (by omega)
 ·simp
theorem n_rem128 {m : Nat} (h : m ≤ 2147483647) : i2b (wrp .u8 (iop .add .i64 (iop .rem .i64 (m : Int) 128) 128)) = UInt8.ofNat (m % 128 + 128) := by
 rw [irem (by omega), iadd (by omega), wrp_eq, i2b_eq]
 congr 1
 simp only [IntKind.wrap, IntKind.bits, IntKind.signed]
 simp; omega
theorem n_quo128 {m : Nat} (h : m ≤ 2147483647) : iop .quo .i64 (m : Int) 128 = ((m / 128 : Nat) : Int) := by
 rw [iquo (by omega) (by omega) (by omega)]; omega
theorem n_wrp8 {m : Nat} (h : m < 128) : i2b (wrp .u8 (m : Int)) = UInt8.ofNat m := by
 rw [wrp_eq, i2b_eq]
 congr 1
 simp only [IntKind.wrap, IntKind.bits, IntKind.signed]
 simp; omega
theorem n_and127 {m : Nat} (h : m ≤ 2147483647) : iop .and .i64 (m : Int) 127 = ((m % 128 : Nat) : Int) := by
 rw [iop_eq]
 show IntKind.i64.wrap ((BitVec.ofInt 64 (m : Int) &&& BitVec.ofInt 64 127).toNat : Int) = _
 have e : (BitVec.ofInt 64 (m : Int) &&& BitVec.ofInt 64 127).toNat = m % 128 := by
  rw [BitVec.toNat_and]
  have e1 : (BitVec.ofInt 64 (m : Int)).toNat = m := by simp [BitVec.toNat_ofInt]; omega
  have e2 : (BitVec.ofInt 64 127).toNat = 2 ^ 7 - 1 := by decide
  rw [e1, e2, Nat.and_two_pow_sub_one_eq_mod]
 rw [e, w64 (by omega)]
theorem n_or128 {m : Nat} (h : m < 128) : iop .or .i64 (m : Int) 128 = ((m + 128 : Nat) : Int) := by
 rw [iop_eq]
 show IntKind.i64.wrap ((BitVec.ofInt 64 (m : Int) ||| BitVec.ofInt 64 128).toNat : Int) = _
 have e : (BitVec.ofInt 64 (m : Int) ||| BitVec.ofInt 64 128).toNat = m + 128 := by
  rw [BitVec.toNat_or]
  have e1 : (BitVec.ofInt 64 (m : Int)).toNat = m := by simp [BitVec.toNat_ofInt]; omega
  have e2 : (BitVec.ofInt 64 128).toNat = 2 ^ 7 := by decide
  rw [e1, e2, Nat.or_comm]
  have := Nat.two_pow_add_eq_or_of_lt (i := 7) (b := m) (by omega) 1
  rw [Nat.mul_one] at this
  omega
 rw [e, w64 (by omega)]
theorem n_low128 {m : Nat} (h : m ≤ 2147483647) : i2b (wrp .u8 (iop .or .i64 (iop .and .i64 (m : Int) 127) 128)) = UInt8.ofNat (m % 128 + 128) := by
 rw [n_and127 h, n_or128 (by omega), wrp_eq, i2b_eq]
 congr 1
 simp only [IntKind.wrap, IntKind.bits, IntKind.signed]
 simp; omega
theorem n_shr128 {m : Nat} (h : m ≤ 2147483647) : iop .shr .i64 (m : Int) 7 = ((m / 128 : Nat) : Int) := by
 rw [show (7 : Int) = ((7 : Nat) : Int) from rfl, ishr 7 (by omega) (by omega)]; omega
theorem i_PutNum (n : Int) : iPutNum n = some (putNum n) := by
 unfold iPutNum putNum
 simp only [i_within, PN]
 refine if_2 (fun h => ?_) (fun h => by rw [if_neg h])
 rw [if_pos h]
 refine bnd_inv (fun s => s.1.toNat) (fun s => ∃ m : Nat, s.1 = (m : Int) ∧ m ≤ 2147483647 ∧ s.2 ++ putNat m = putNat n.toNat) (fun r => ∃ m : Nat, r.1 = (m : Int) ∧ m < 128 ∧ r.2 ++ [UInt8.ofNat m] = putNat n.toNat) ?_ ⟨n.toNat, by simp; omega, by omega, rfl⟩ ?_
 ·rintro ⟨a, p⟩ ⟨m, h1, h2, h3⟩
  dsimp only at h1 h2 h3 ⊢
  subst h1
  have hl := congrArg List.length h3
  have hl2 := putNat_len (show n.toNat ≤ 2147483647 by omega)
  rw [List.length_append] at hl
  by_cases hm : 128 ≤ m
  ·refine .inl ⟨((m / 128 : Nat), p ++ [UInt8.ofNat (m % 128 + 128)]), ?_, ⟨m / 128, rfl, by omega, ?_⟩, by dsimp only; omega⟩
   ·rw [if_pos (by omega), ck_in (room (by omega) (by omega)), n_low128 h2, n_shr128 h2]
   ·rw [← h3, putNat_ge hm]; simp
  ·refine .inr ⟨((m : Int), p), by rw [if_neg (by omega)], m, rfl, by omega, ?_⟩
   rw [← h3, putNat_lt (by omega)]
 ·rintro ⟨a, p⟩ ⟨m, h1, h2, h3⟩
  dsimp only at h1 h2 h3 ⊢
  subst h1
  have hl := congrArg List.length h3
  have hl2 := putNat_len (show n.toNat ≤ 2147483647 by omega)
  rw [List.length_append] at hl
  rw [ck_in (room (by omega) (by omega)), n_wrp8 h2, h3]
theorem s_PutNum (n : Int) : sPutNum n = some (putNum n) := by
 unfold sPutNum putNum
 simp only [s_l1In, PN]
 refine if_2 (fun h => ?_) (fun h => by rw [if_neg h])
 rw [if_pos h]
 refine bnd_inv (fun s => s.1.toNat) (fun s => ∃ m : Nat, s.1 = (m : Int) ∧ m ≤ 2147483647 ∧ s.2 ++ putNat m = putNat n.toNat) (fun r => ∃ m : Nat, r.1 = (m : Int) ∧ m < 128 ∧ r.2 ++ [UInt8.ofNat m] = putNat n.toNat) ?_ ⟨n.toNat, by simp; omega, by omega, rfl⟩ ?_
 ·rintro ⟨a, p⟩ ⟨m, h1, h2, h3⟩
  dsimp only at h1 h2 h3 ⊢
  subst h1
  have hl := congrArg List.length h3
  have hl2 := putNat_len (show n.toNat ≤ 2147483647 by omega)
  rw [List.length_append] at hl
  by_cases hm : 128 ≤ m
  ·refine .inl ⟨((m / 128 : Nat), p ++ [UInt8.ofNat (m % 128 + 128)]), ?_, ⟨m / 128, rfl, by omega, ?_⟩, by dsimp only; omega⟩
   ·rw [if_pos (by omega), ck_in (room (by omega) (by omega)), n_rem128 h2, n_quo128 h2]
   ·rw [← h3, putNat_ge hm]; simp
  ·refine .inr ⟨((m : Int), p), by rw [if_neg (by omega)], m, rfl, by omega, ?_⟩
   rw [← h3, putNat_lt (by omega)]
 ·rintro ⟨a, p⟩ ⟨m, h1, h2, h3⟩
  dsimp only at h1 h2 h3 ⊢
  subst h1
  have hl := congrArg List.length h3
  have hl2 := putNat_len (show n.toNat ≤ 2147483647 by omega)
  rw [List.length_append] at hl
  rw [ck_in (room (by omega) (by omega)), n_wrp8 h2, h3]
/-! ### The text of a node -/
noncomputable def kindB (k : Int) : UInt8 := i2b (wrp .u8 k)
noncomputable def nodeText (n : NodeD) : List UInt8 := open Classical in
 if NodeOk n then (if n.kind = 0 then [kindB n.kind] else [kindB n.kind] ++ putNum n.gen ++ putNum n.time ++ putNum n.size ++ n.blocks.flatMap putNum) else []
theorem nodeText_len (n : NodeD) : (nodeText n).length ≤ 41 := by
 unfold nodeText
 split
 ·rename_i h
  split
  ·simp
  ·have h1 := flatMap_len putNum 5 n.blocks fun x _ => putNum_len x
   have h2 := h.len
   have := putNum_len n.gen
   have := putNum_len n.time
   have := putNum_len n.size
   simp only [List.length_append, List.length_cons, List.length_nil]
   omega
 ·simp
theorem flat_take_le {α β : Type} (g : α → List β) (n : Nat) (h : ∀ x, (g x).length ≤ n) (l : List α) (i : Nat) : ((l.take i).flatMap g).length ≤ n * l.length := by
 have h1 := flatMap_len g n (l.take i) fun x _ => h x
 have : (l.take i).length ≤ l.length := by simp; omega
 exact Nat.le_trans h1 (Nat.mul_le_mul_left n this)
theorem i_NodeText (n : NodeD) : iNodeText n = some (nodeText n) := by
 unfold iNodeText nodeText
 simp only [i_NodeOk, PN, bite]
 refine if_2 (fun h => ?_) (fun h => by rw [if_neg h])
 rw [if_pos h]
 have hl := h.len
 refine if_2 (fun h0 => ?_) (fun h0 => ?_)
 ·rw [if_neg h0, ck_in (room (by omega) (by omega))]
  refine bnd_flat (fun i b => (b, (i : Int))) putNum ([n.gen, n.time, n.size] ++ n.blocks) [kindB n.kind] ([kindB n.kind] ++ ([n.gen, n.time, n.size] ++ n.blocks).flatMap putNum) rfl (fun i x hx => ?_) ?_ ?_
  ·have h1 := len_lt hx
   have h2 := flat_take_le putNum 5 putNum_len ([n.gen, n.time, n.size] ++ n.blocks) i
   have h3 := putNum_len x
   simp only [List.length_append, List.length_cons, List.length_nil] at h1 h2
   dsimp only
   rw [if_pos (by simp only [List.length_append, List.length_cons, List.length_nil]; omega), gt_ok hx, bsome, i_PutNum, bsome,
    ck_in (room (by omega) (by simp only [List.length_append, List.length_cons, List.length_nil]; omega)), ir_add1 (by omega)]
  ·dsimp only
   rw [if_neg (by omega)]
  ·simp
 ·rw [if_pos (Classical.not_not.1 h0)]; rfl
theorem s_NodeText (n : NodeD) : sNodeText n = some (nodeText n) := by
 unfold sNodeText nodeText
 simp only [s_NodeOk, s_PutNum, PN, bite]
 refine if_2 (fun h => ?_) (fun h => by rw [if_neg h])
 rw [if_pos h]
 have hl := h.len
 refine if_2 (fun h0 => ?_) (fun h0 => ?_)
 ·rw [if_pos h0]; rfl
 ·have k1 := putNum_len n.gen
  have k2 := putNum_len n.time
  have k3 := putNum_len n.size
  rw [if_neg h0, ck_in (room (by omega) (by omega)), ck_in (room (by omega) (by simp; omega)), ck_in (room (by omega) (by simp; omega))]
  refine bnd_flat (fun i b => (b, (i : Int))) putNum n.blocks ([kindB n.kind] ++ putNum n.gen ++ putNum n.time ++ putNum n.size) _ rfl (fun i x hx => ?_) ?_ rfl
  ·have h1 := len_lt hx
   have h2 := flat_take_le putNum 5 putNum_len n.blocks i
   have h3 := putNum_len x
   dsimp only
   rw [if_pos (by omega), gt_ok hx, bsome, ck_in (room (by omega) (by simp only [List.length_append, List.length_cons, List.length_nil]; omega)), ir_add1 (by omega)]
  ·dsimp only
   rw [if_neg (by omega)]
/-! ### slices.Repeat of one number -/
theorem g_Mul (n : Nat) (h : n ≤ 36) : gmath_bits_Mul (wrp .u64 1) (wrp .u64 (n : Int)) = some (0, (n : Int)) := by
 unfold gmath_bits_Mul gmath_bits_Mul64
 simp only [bsome, wrp_eq, iop_eq]
 obtain ⟨k, rfl⟩ : ∃ k : Fin 37, n = k.val := ⟨⟨n, by omega⟩, rfl⟩
 revert k
 decide +kernel
theorem cpl_rep (n k : Nat) (hk : k ≤ n) : cpl (some ((k : Int), (n : Int))) (List.replicate k (-1 : Int) ++ List.replicate (n - k) 0) (List.replicate k (-1 : Int)) = List.replicate (k + min k (n - k)) (-1 : Int) ++ List.replicate (n - (k + min k (n - k))) 0 := by
 have hl : (List.replicate k (-1 : Int) ++ List.replicate (n - k) 0).length = n := by simp; omega
 have ej : ((List.replicate k (-1 : Int)).take (min n n - k)) = List.replicate (min k (n - k)) (-1) := by
  rw [List.take_replicate, Nat.min_self, Nat.min_comm]
 rw [cpl_eq]
 simp only [vlo, vln, Int.toNat_natCast, hl, ej, List.length_replicate]
 rw [List.take_append_of_le_length (by simp), List.take_of_length_le (by simp), List.replicate_append_replicate, List.drop_append, List.length_replicate, List.drop_replicate, List.drop_replicate]
 rw [show k - (k + min k (n - k)) = 0 by omega, show n - k - (k + min k (n - k) - k) = n - (k + min k (n - k)) by omega]
 rfl
theorem g_Repeat (n : Nat) (hn : n ≤ 36) : gslices_Repeat_int [-1] (n : Int) = some (List.replicate n (-1)) := by
 unfold gslices_Repeat_int
 have e1 : ln [(-1 : Int)] = 1 := by rw [ln_eq]; rfl
 rw [e1, g_Mul n hn]
 simp only [PN]
 have ew : wrp .i64 (n : Int) = n := by rw [wrp_eq, w64 (by omega)]
 rw [if_neg (by omega), if_neg (by omega), if_neg (by omega), ew, ck_in (ins (by omega)), ck_in (room (by omega) (by omega))]
 refine bnd_inv (fun s => n - s.2.toNat) (fun s => ∃ k : Nat, s = (List.replicate k (-1) ++ List.replicate (n - k) 0, (k : Int)) ∧ k ≤ n ∧ (0 < n → 1 ≤ k)) (fun r => r = List.replicate n (-1)) ?_ ?_ (fun r hr => by rw [hr])
 ·rintro ⟨a, i⟩ ⟨k, h1, h2, h3⟩
  injection h1 with h1 h1'
  subst h1 h1'
  have hlen : (List.replicate k (-1 : Int) ++ List.replicate (n - k) 0).length = n := by simp; omega
  dsimp only
  rw [hlen]
  by_cases hk : k < n
  ·have es : sb (List.replicate k (-1 : Int) ++ List.replicate (n - k) 0) 0 (k : Int) = List.replicate k (-1) := by rw [sb_to, List.take_append_of_le_length (by simp), List.take_of_length_le (by simp)]
   have ec : cpc (some ((k : Int), (n : Int))) (List.replicate k (-1 : Int) ++ List.replicate (n - k) 0) (List.replicate k (-1 : Int)) = ((min k (n - k) : Nat) : Int) := by
    rw [cpc_eq]; simp only [vln, Int.toNat_natCast, hlen, List.length_replicate, Nat.min_self]
   refine .inl ⟨(List.replicate (k + min k (n - k)) (-1) ++ List.replicate (n - (k + min k (n - k))) 0, ((k + min k (n - k) : Nat) : Int)), ?_, ⟨k + min k (n - k), rfl, by omega, by omega⟩, by dsimp only; omega⟩
   rw [if_pos (by omega), ck_in (ins (by omega)), ck_in (ins (by omega)), es, ec, cpl_rep n k h2, iadd (by omega)]
   congr 3
  ·refine .inr ⟨_, by rw [if_neg (by omega)], ?_⟩
   obtain rfl : k = n := by omega
   simp
 ·refine ⟨min 1 n, ?_, by omega, by omega⟩
  have e2 : rp (n : Int) (0 : Int) = List.replicate n 0 := by rw [rp_eq]; simp
  rw [e2, cpl_eq, cpc_eq]
  simp only [vlo, vln, List.length_replicate, List.take_zero, List.nil_append, List.length_singleton, Nat.zero_add]
  cases n with
  | zero => rfl
  | succ m => rw [show min 1 (m + 1) = 1 by omega]; simp [List.replicate_succ]
/-! ### Whose a block is -/
def blks (l : List NodeD) : List Int := l.flatMap fun n => n.blocks
structure OwnI (d : Nat) (out : List Int) (P : List Int) : Prop where
 len : out.length = d
 rng : ∀ b ∈ P, 0 ≤ b ∧ b < (d : Int)
 nd : P.Nodup
 at_ : ∀ (k : Nat) x, out[k]? = some x → (0 ≤ x ↔ (k : Int) ∈ P)
def GoodB (d : Nat) (P : List Int) : Prop := (∀ b ∈ P, 0 ≤ b ∧ b < (d : Int)) ∧ P.Nodup
theorem GoodB.pre {d : Nat} {P Q : List Int} (h : GoodB d (P ++ Q)) : GoodB d P := ⟨fun b hb => h.1 b (List.mem_append_left _ hb), (List.nodup_append.1 h.2).1⟩
theorem OwnI.good {d : Nat} {out P : List Int} (h : OwnI d out P) : GoodB d P := ⟨h.rng, h.nd⟩
theorem OwnI.step {d : Nat} {out P : List Int} {b : Int} {x i : Int} (h : OwnI d out P) (h0 : 0 ≤ b) (hb : b < (d : Int)) (hx : out[b.toNat]? = some x) (hn : ¬ 0 ≤ x) (hi : 0 ≤ i) : OwnI d (out.set b.toNat i) (P ++ [b]) := by
 have hnb : ¬ b ∈ P := fun hh => hn ((h.at_ b.toNat x hx).2 (by rwa [Int.toNat_of_nonneg h0]))
 refine ⟨by simpa using h.len, fun c hc => ?_, ?_, fun k y hy => ?_⟩
 ·rcases List.mem_append.1 hc with hc | hc
  ·exact h.rng c hc
  ·obtain rfl := List.mem_singleton.1 hc
   exact ⟨h0, hb⟩
 ·exact List.nodup_append.2 ⟨h.nd, by simp, fun a ha c hc => by
   obtain rfl := List.mem_singleton.1 hc
   exact fun e => hnb (e ▸ ha)⟩
 ·rw [List.getElem?_set] at hy
  split at hy
  ·rename_i e
   split at hy
   ·cases hy
    exact iff_of_true hi (List.mem_append_right _ (by simp; omega))
   ·cases hy
  ·rename_i e
   rw [h.at_ k y hy, List.mem_append, List.mem_singleton]
   constructor
   ·exact .inl
   ·rintro (hh | hh)
    ·exact hh
    ·omega
theorem rep_own (d : Nat) : OwnI d (List.replicate d (-1)) [] := by
 refine ⟨by simp, (fun b hb => by cases hb), List.nodup_nil, fun k x hx => ?_⟩
 rw [List.getElem?_replicate] at hx
 split at hx
 ·cases hx; simp
 ·cases hx
theorem blks_take {l : List NodeD} {i : Nat} {n : NodeD} (h : l[i]? = some n) : blks (l.take (i + 1)) = blks (l.take i) ++ n.blocks := by
 unfold blks; rw [take_snoc' h, List.flatMap_append, List.flatMap_singleton]
theorem blks_split {l : List NodeD} {i : Nat} {n : NodeD} (h : l[i]? = some n) : ∃ Q, blks l = blks (l.take i) ++ (n.blocks ++ Q) := by
 refine ⟨blks (l.drop (i + 1)), ?_⟩
 rw [← List.append_assoc, ← blks_take h]
 unfold blks
 rw [← List.flatMap_append, List.take_append_drop]
theorem OwnI.bad1 {d : Nat} {out P Q : List Int} {b : Int} (h : (d : Int) ≤ b) : ¬ GoodB d (P ++ (b :: Q)) := fun hg => by
 have := (hg.1 b (by simp)).2
 omega
theorem OwnI.bad2 {d : Nat} {out P Q : List Int} {b x : Int} (h : OwnI d out P) (h0 : 0 ≤ b) (hx : out[b.toNat]? = some x) (hn : 0 ≤ x) : ¬ GoodB d (P ++ (b :: Q)) := fun hg => by
 have h1 : b ∈ P := by
  have := (h.at_ b.toNat x hx).1 hn
  rwa [Int.toNat_of_nonneg h0] at this
 exact (List.nodup_append.1 hg.2).2.2 b h1 b (by simp) rfl
theorem i_owners (f : FsD) (hd : f.data.length ≤ 36) (hn : f.nodes.length ≤ 10) (hk : ∀ (i : Nat) (n : NodeD), f.nodes[i]? = some n → n.blocks.length ≤ 5 ∧ ∀ b ∈ n.blocks, 0 ≤ b) :
  Wp (fun r : List Int × Bool => (r.2 = true ∧ OwnI f.data.length r.1 (blks f.nodes)) ∨ (r = ([], false) ∧ ¬ GoodB f.data.length (blks f.nodes))) (iowners f) := by
 unfold iowners
 rw [ln_eq, g_Repeat _ hd, bsome]
 simp only [PN]
 refine wp_loop (fun s => f.nodes.length - s.2.toNat) (fun s => ∃ i : Nat, s.2 = (i : Int) ∧ i ≤ f.nodes.length ∧ OwnI f.data.length s.1 (blks (f.nodes.take i)))
  (fun r => (∃ out, r = .inl out ∧ OwnI f.data.length out (blks f.nodes)) ∨ (r = .inr ([], false) ∧ ¬ GoodB f.data.length (blks f.nodes))) ⟨0, rfl, by omega, rep_own _⟩ ?_ ?_
 ·rintro ⟨out, j⟩ ⟨i, h1, h2, h3⟩
  dsimp only at h1 h3 ⊢
  subst h1
  refine wp_if (fun hi => ?_) (fun hi => ?_)
  ·obtain ⟨n, hnn⟩ := get_some (show i < f.nodes.length by omega)
   obtain ⟨hl, hb0⟩ := hk i n hnn
   obtain ⟨Q, hQ⟩ := blks_split hnn
   rw [gt_ok hnn, bsome]
   refine wp_loop (fun s => n.blocks.length - s.2.toNat) (fun s => ∃ q : Nat, s.2 = (q : Int) ∧ q ≤ n.blocks.length ∧ OwnI f.data.length s.1 (blks (f.nodes.take i) ++ n.blocks.take q))
    (fun r => (∃ o, r = .inl o ∧ OwnI f.data.length o (blks (f.nodes.take (i + 1)))) ∨ (r = .inr (.inr (.inr ([], false))) ∧ ¬ GoodB f.data.length (blks f.nodes))) ⟨0, rfl, by omega, by simpa using h3⟩ ?_ ?_
   ·rintro ⟨o, j⟩ ⟨q, g1, g2, g3⟩
    dsimp only at g1 g3 ⊢
    subst g1
    refine wp_if (fun hq => ?_) (fun hq => ?_)
    ·obtain ⟨b, hb⟩ := get_some (show q < n.blocks.length by omega)
     have hbb : blks f.nodes = (blks (f.nodes.take i) ++ n.blocks.take q) ++ (b :: (n.blocks.drop (q + 1) ++ Q)) := by
      rw [hQ, List.append_assoc, ← List.cons_append, ← List.append_assoc (n.blocks.take q)]
      congr 2
      rw [← drop_at hb, List.take_append_drop]
     have hb1 := hb0 b (List.mem_of_getElem? hb)
     rw [gt_ok hb, bsome]
     refine wp_if (fun hge => wp_out (.inr ⟨rfl, hbb ▸ OwnI.bad1 (out := o) hge⟩)) (fun hlt => ?_)
     obtain ⟨x, hx⟩ := get_some (l := o) (i := b.toNat) (by rw [g3.len]; omega)
     rw [gtI hb1 hx, bsome]
     refine wp_if (fun hge => wp_out (.inr ⟨rfl, hbb ▸ g3.bad2 hb1 hx hge⟩)) (fun hneg => ?_)
     refine wp_back ⟨q + 1, ?_, by omega, ?_⟩ ?_
     ·exact ir_add1 (by omega)
     ·dsimp only
      rw [sl_eq, take_snoc' hb, ← List.append_assoc]
      exact g3.step hb1 (by omega) hx hneg (by omega)
     ·dsimp only
      rw [ir_add1 (by omega)]; omega
    ·refine wp_out (.inl ⟨o, rfl, ?_⟩)
     rw [blks_take hnn]
     rwa [List.take_of_length_le (l := n.blocks) (by omega)] at g3
   ·rintro r (⟨o, rfl, ho⟩ | ⟨rfl, hg⟩)
    ·refine wp_back ⟨i + 1, ir_add1 (by omega), by omega, ho⟩ ?_
     dsimp only
     rw [ir_add1 (by omega)]; omega
    ·exact wp_out (.inr ⟨rfl, hg⟩)
  ·refine wp_out (.inl ⟨out, rfl, ?_⟩)
   rwa [List.take_of_length_le (by omega)] at h3
 ·rintro r (⟨o, rfl, ho⟩ | ⟨rfl, hg⟩)
  ·exact wp_some (.inl ⟨rfl, ho⟩)
  ·exact wp_some (.inr ⟨rfl, hg⟩)
/-! ### How often a block is used -/
noncomputable def cnt (p : Int → Prop) (P : List Int) : Nat := open Classical in P.countP fun b => decide (p b)
theorem cnt_nil (p : Int → Prop) : cnt p [] = 0 := rfl
theorem cnt_snoc (p : Int → Prop) (P : List Int) (b : Int) : cnt p (P ++ [b]) = cnt p P + (@ite _ (p b) (Classical.propDecidable _) 1 0) := by
 unfold cnt
 rw [List.countP_append, List.countP_singleton]
 congr 1
 by_cases h : p b <;> simp [h]
theorem cnt_le (p : Int → Prop) (P : List Int) : cnt p P ≤ P.length := List.countP_le_length
theorem cnt_pos (p : Int → Prop) (P : List Int) : 0 < cnt p P ↔ ∃ a ∈ P, p a := by unfold cnt; rw [List.countP_pos_iff]; simp
theorem cnt_cons (p : Int → Prop) (P : List Int) (b : Int) : cnt p (b :: P) = cnt p P + (@ite _ (p b) (Classical.propDecidable _) 1 0) := by
 unfold cnt
 rw [List.countP_cons]
 congr 1
 by_cases h : p b <;> simp [h]
theorem nodup_cnt : ∀ P : List Int, P.Nodup ↔ ∀ k, cnt (fun b => b = k) P ≤ 1
 | [] => by simp [cnt_nil]
 | a :: P => by
  rw [List.nodup_cons, nodup_cnt P]
  constructor
  ·rintro ⟨h1, h2⟩ k
   rw [cnt_cons]
   split
   ·rename_i e
    subst e
    have : ¬ 0 < cnt (fun b => b = a) P := fun hh => by
     obtain ⟨c, hc, e⟩ := (cnt_pos _ _).1 hh
     exact h1 (e ▸ hc)
    omega
   ·exact h2 k
  ·intro h
   refine ⟨fun hm => ?_, fun k => ?_⟩
   ·have := h a
    rw [cnt_cons, if_pos rfl] at this
    have := (cnt_pos (fun b => b = a) P).2 ⟨a, hm, rfl⟩
    omega
   ·have := h k
    rw [cnt_cons] at this
    omega
def Out (d : Nat) (b : Int) : Prop := ¬ (0 ≤ b ∧ b ≤ (d : Int) - 1)
structure UsedI (d : Nat) (u : List Int) (P : List Int) : Prop where
 len : u.length = d + 1
 at_ : ∀ k : Nat, k < d → u[k]? = some ((cnt (fun b => b = (k : Int)) P : Nat) : Int)
 end_ : u[d]? = some ((cnt (Out d) P : Nat) : Int)
theorem UsedI.inn {d : Nat} {u P : List Int} {b : Int} (h : UsedI d u P) (hb : 0 ≤ b ∧ b ≤ (d : Int) - 1) : ∃ y : Nat, u[b.toNat]? = some (y : Int) ∧ y ≤ P.length ∧ UsedI d (u.set b.toNat ((y : Int) + 1)) (P ++ [b]) := by
 refine ⟨_, h.at_ b.toNat (by omega), cnt_le _ _, ⟨by simpa using h.len, fun k hk => ?_, ?_⟩⟩
 ·rw [List.getElem?_set, cnt_snoc]
  split
  ·rename_i e
   subst e
   rw [if_pos (by rw [h.len]; omega), if_pos (by omega)]
   rfl
  ·rename_i e
   rw [if_neg (by omega), Nat.add_zero]
   exact h.at_ k hk
 ·rw [List.getElem?_set, if_neg (by omega), cnt_snoc, if_neg (fun hh => hh hb), Nat.add_zero]
  exact h.end_
theorem UsedI.out {d : Nat} {u P : List Int} {b : Int} (h : UsedI d u P) (hb : ¬ (0 ≤ b ∧ b ≤ (d : Int) - 1)) : ∃ y : Nat, u[d]? = some (y : Int) ∧ y ≤ P.length ∧ UsedI d (u.set d ((y : Int) + 1)) (P ++ [b]) := by
 refine ⟨_, h.end_, cnt_le _ _, ⟨by simpa using h.len, fun k hk => ?_, ?_⟩⟩
 ·rw [List.getElem?_set, if_neg (by omega), cnt_snoc, if_neg (by omega), Nat.add_zero]
  exact h.at_ k hk
 ·rw [List.getElem?_set, if_pos rfl, if_pos (by rw [h.len]; omega), cnt_snoc, if_pos (show Out d b from hb)]
  rfl
theorem rp_used (d : Nat) : UsedI d (rp ((d : Int) + 1) (0 : Int)) [] := by
 rw [rp_eq, show ((d : Int) + 1).toNat = d + 1 by omega]
 refine ⟨by simp, fun k hk => ?_, ?_⟩
 ·rw [List.getElem?_replicate, if_pos (by omega), cnt_nil]; rfl
 ·rw [List.getElem?_replicate, if_pos (by omega), cnt_nil]; rfl
theorem s_l6Used (f : FsD) (hd : f.data.length ≤ 36) (hn : f.nodes.length ≤ 10) (hk : ∀ (i : Nat) (n : NodeD), f.nodes[i]? = some n → n.blocks.length ≤ 5) :
  Wp (fun u => UsedI f.data.length u (blks f.nodes)) (sl6Used f) := by
 have hbl : (blks f.nodes).length ≤ 5 * f.nodes.length := flatMap_len _ 5 _ fun x hx => by
  obtain ⟨i, hi⟩ := List.mem_iff_getElem?.1 hx
  exact hk i x hi
 unfold sl6Used
 simp only [PN, s_l1In]
 rw [iadd (by omega), isub (by omega)]
 refine wp_ck (ins (by omega)) (wp_ck (room (by omega) (by omega)) ?_)
 refine wp_loop (fun s => f.nodes.length - s.2.toNat) (fun s => ∃ i : Nat, s.2 = (i : Int) ∧ i ≤ f.nodes.length ∧ UsedI f.data.length s.1 (blks (f.nodes.take i)))
  (fun r => UsedI f.data.length r (blks f.nodes)) ⟨0, rfl, by omega, rp_used _⟩ ?_ (fun r hr => wp_some hr)
 rintro ⟨u, j⟩ ⟨i, h1, h2, h3⟩
 dsimp only at h1 h3 ⊢
 subst h1
 refine wp_if (fun hi => ?_) (fun hi => ?_)
 ·obtain ⟨n, hnn⟩ := get_some (show i < f.nodes.length by omega)
  have hl := hk i n hnn
  obtain ⟨Q, hQ⟩ := blks_split hnn
  refine wp_loop (fun s => n.blocks.length - s.2.toNat) (fun s => ∃ q : Nat, s.2 = (q : Int) ∧ q ≤ n.blocks.length ∧ UsedI f.data.length s.1 (blks (f.nodes.take i) ++ n.blocks.take q))
   (fun r => UsedI f.data.length r (blks (f.nodes.take (i + 1)))) ⟨0, rfl, by omega, by simpa using h3⟩ ?_ (fun r hr => ?_)
  ·rintro ⟨o, j⟩ ⟨q, g1, g2, g3⟩
   dsimp only at g1 g3 ⊢
   subst g1
   rw [gt_ok hnn, bsome]
   refine wp_if (fun hq => ?_) (fun hq => ?_)
   ·obtain ⟨b, hb⟩ := get_some (show q < n.blocks.length by omega)
    have hP : (blks (f.nodes.take i) ++ n.blocks.take q).length ≤ 50 := by
     have := congrArg List.length hQ
     simp only [List.length_append, List.length_take] at this ⊢
     omega
    rw [gt_ok hb, bsome]
    refine wp_if (fun hin => ?_) (fun hin => ?_)
    ·obtain ⟨y, e1, e2, e3⟩ := g3.inn hin
     rw [gtI hin.1 e1, bsome, sl_eq, iadd (by omega)]
     refine wp_back ⟨q + 1, ir_add1 (by omega), by omega, ?_⟩ ?_
     ·dsimp only
      rwa [take_snoc' hb, ← List.append_assoc]
     ·dsimp only
      rw [ir_add1 (by omega)]; omega
    ·obtain ⟨y, e1, e2, e3⟩ := g3.out hin
     rw [gt_ok e1, bsome, sl_eq, iadd (by omega), Int.toNat_natCast]
     refine wp_back ⟨q + 1, ir_add1 (by omega), by omega, ?_⟩ ?_
     ·dsimp only
      rwa [take_snoc' hb, ← List.append_assoc]
     ·dsimp only
      rw [ir_add1 (by omega)]; omega
   ·refine wp_out ?_
    rw [blks_take hnn]
    rwa [List.take_of_length_le (l := n.blocks) (by omega)] at g3
  ·refine wp_back ⟨i + 1, ir_add1 (by omega), by omega, hr⟩ ?_
   dsimp only
   rw [ir_add1 (by omega)]; omega
 ·refine wp_out ?_
  rwa [List.take_of_length_le (by omega)] at h3
theorem wp_no {Q : Prop} (h : ¬ Q) : Wp (fun r => r = tb Q) (some false) := wp_some (tb_neg h).symm
theorem wp_yes {Q : Prop} (h : Q) : Wp (fun r => r = tb Q) (some true) := wp_some (tb_pos h).symm
/-! ### ShapeOk -/
def SizesOk (f : FsD) : Prop := ∀ (i : Nat) (n : NodeD), f.nodes[i]? = some n → ∀ (k : Nat) (b : Int), n.blocks[k]? = some b → ∀ s, f.data[b.toNat]? = some s → (s.length : Int) = min (n.size - 16 * (k : Int)) 16
def DataOk (f : FsD) : Prop := ∀ (k : Nat) s, f.data[k]? = some s → s.length ≤ 16 ∧ (¬ (k : Int) ∈ blks f.nodes → s = [])
def NodesOk (l : List NodeD) : Prop := ∀ (i : Nat) (n : NodeD), l[i]? = some n → NodeOk n
structure ShapeOk (f : FsD) : Prop where
 n1 : 2 ≤ f.nodes.length ∧ f.nodes.length ≤ 10
 d1 : 1 ≤ f.data.length ∧ f.data.length ≤ 36
 root : ∀ n, f.nodes[0]? = some n → n.kind = 2
 nodes : NodesOk f.nodes
 good : GoodB f.data.length (blks f.nodes)
 data : DataOk f
 sizes : SizesOk f
theorem g_BadNode {l : List NodeD} (hl : l.length ≤ 10) : gslices_ContainsFunc_Node_iShapeOk_1 l = some (tb (¬ NodesOk l)) := by
 unfold gslices_ContainsFunc_Node_iShapeOk_1 gslices_IndexFunc_Node_iShapeOk_1 iShapeOk_1
 simp only [PN, i_NodeOk]
 rw [bnd_assoc]
 refine bnd_first (fun i : Nat => (i : Int)) l (fun i y => NodeOk y) (fun i _ => .inr (i : Int)) (.inl ()) rfl (fun i y hy _ h => ?_) (fun i y hy _ h => ?_) (fun h => ?_) (fun h => ?_) (fun k y hy hn hj => ?_)
 ·have := len_lt hy
  rw [if_pos (by omega), gt_ok hy, bsome, if_neg (fun hh => hh h), ir_add1 (by omega)]
 ·have := len_lt hy
  rw [if_pos (by omega), gt_ok hy, bsome, if_pos h]
 ·rw [if_neg (by omega)]
 ·exact tb_some (iff_of_false (by omega) fun h2 => h2 h)
 ·exact tb_some (iff_of_true (by omega) (fun hh => hn (hh k y hy)))
theorem NodesOk.h {l : List NodeD} (h : NodesOk l) : ∀ (i : Nat) (n : NodeD), l[i]? = some n → n.blocks.length ≤ 5 ∧ ∀ b ∈ n.blocks, 0 ≤ b := fun i n hn =>
 ⟨(h i n hn).len, fun b hb => by
  obtain ⟨k, hk⟩ := List.mem_iff_getElem?.1 hb
  exact ((h i n hn).blk k b hk).1.1⟩
theorem NodeOk.size {n : NodeD} (h : NodeOk n) : 0 ≤ n.size ∧ n.size ≤ 80 := by
 rcases h with h | h
 ·omega
 ·exact h.2.2.2.2.1
theorem blk_mem {l : List NodeD} {i k : Nat} {n : NodeD} {b : Int} (h : l[i]? = some n) (hb : n.blocks[k]? = some b) : b ∈ blks l := by
 unfold blks
 exact List.mem_flatMap.2 ⟨n, List.mem_of_getElem? h, List.mem_of_getElem? hb⟩
theorem i_ShapeOk (f : FsD) : iShapeOk f = some (tb (ShapeOk f)) := by
 refine wp_eq ?_
 unfold iShapeOk
 simp only [PN, i_within]
 refine wp_if (fun hn => ?_) (fun hn => wp_no fun h => hn (by have := h.n1; omega))
 refine wp_if (fun hd => ?_) (fun hd => wp_no fun h => hd (by have := h.d1; omega))
 obtain ⟨n0, hn0⟩ := get_some (l := f.nodes) (i := 0) (by omega)
 rw [gt0 hn0, bsome]
 refine wp_if (fun hk => wp_no fun h => hk (h.root n0 hn0)) (fun hk => ?_)
 rw [g_BadNode (by omega)]
 simp only [PN]
 refine wp_if (fun hb => wp_no fun h => hb h.nodes) (fun hb => ?_)
 have hnd : NodesOk f.nodes := Classical.not_not.1 hb
 refine wp_bnd _ (i_owners f (by omega) (by omega) hnd.h) ?_
 rintro ⟨out, ok⟩ (⟨rfl, ho⟩ | ⟨e, hg⟩)
 ·simp only [cond_true]
  refine wp_loop (fun s => f.data.length - s.toNat) (fun s => ∃ i : Nat, s = (i : Int) ∧ i ≤ f.data.length ∧ ∀ (k : Nat) s, k < i → f.data[k]? = some s → s.length ≤ 16 ∧ (¬ (k : Int) ∈ blks f.nodes → s = []))
   (fun r => (r = .inl () ∧ DataOk f) ∨ (r = .inr false ∧ ¬ DataOk f)) ⟨0, rfl, by omega, fun k s hk => by omega⟩ ?_ ?_
  ·rintro j ⟨i, rfl, h2, h3⟩
   refine wp_if (fun hi => ?_) (fun hi => wp_out (.inl ⟨rfl, fun k s hs => h3 k s (by have := len_lt hs; omega) hs⟩))
   obtain ⟨s, hs⟩ := get_some (l := f.data) (i := i) (by omega)
   rw [gt_ok hs, bsome]
   refine wp_if (fun hl => wp_out (.inr ⟨rfl, fun h => by have := (h i s hs).1; omega⟩)) (fun hl => ?_)
   obtain ⟨x, hx⟩ := get_some (l := out) (i := i) (by rw [ho.len]; omega)
   rw [gt_ok hx, bsome]
   have hxx := ho.at_ i x hx
   have hstep : (¬ (i : Int) ∈ blks f.nodes → s = []) → Wp (LpO (fun s => f.data.length - s.toNat) (fun s => ∃ i : Nat, s = (i : Int) ∧ i ≤ f.data.length ∧ ∀ (k : Nat) s, k < i → f.data[k]? = some s → s.length ≤ 16 ∧ (¬ (k : Int) ∈ blks f.nodes → s = []))
     (fun r => (r = (Sum.inl () : Unit ⊕ Bool) ∧ DataOk f) ∨ (r = .inr false ∧ ¬ DataOk f)) (i : Int)) (some (.inl (iop .add .i64 (i : Int) 1))) := fun he => by
    refine wp_back ⟨i + 1, ir_add1 (by omega), by omega, fun k s' hk hs' => ?_⟩ (by rw [ir_add1 (by omega)]; omega)
    by_cases e : k = i
    ·subst e
     rw [hs] at hs'
     cases hs'
     exact ⟨by omega, he⟩
    ·exact h3 k s' (by omega) hs'
   refine wp_if (fun hneg => wp_if (fun hne => wp_out (.inr ⟨rfl, fun h => hne ((h i s hs).2 (fun hm => by have := hxx.2 hm; omega))⟩)) (fun hne => hstep fun _ => Classical.not_not.1 hne)) (fun hpos => hstep fun hm => absurd (hxx.1 (by omega)) hm)
  ·rintro r (⟨rfl, hdo⟩ | ⟨rfl, hdo⟩)
   ·rw [Sum.elim_inl]
    refine wp_loop (fun s => f.nodes.length - s.toNat) (fun s => ∃ i : Nat, s = (i : Int) ∧ i ≤ f.nodes.length ∧ ∀ (j : Nat) (n : NodeD), j < i → f.nodes[j]? = some n → ∀ (k : Nat) (b : Int), n.blocks[k]? = some b → ∀ s, f.data[b.toNat]? = some s → (s.length : Int) = min (n.size - 16 * (k : Int)) 16)
     (fun r => (r = .inl () ∧ SizesOk f) ∨ (r = .inr false ∧ ¬ SizesOk f)) ⟨0, rfl, by omega, fun k s hk => by omega⟩ ?_ ?_
    ·rintro j ⟨i, rfl, h2, h3⟩
     refine wp_if (fun hi => ?_) (fun hi => wp_out (.inl ⟨rfl, fun k s hs => h3 k s (by have := len_lt hs; omega) hs⟩))
     obtain ⟨n, hnn⟩ := get_some (l := f.nodes) (i := i) (by omega)
     rw [gt_ok hnn, bsome]
     have hno := hnd i n hnn
     have hsz := hno.size
     have hbl := hno.len
     refine wp_loop (fun s => n.blocks.length - s.2.toNat) (fun s => ∃ q : Nat, s = (n.size - 16 * (q : Int), (q : Int)) ∧ q ≤ n.blocks.length ∧ ∀ (k : Nat) (b : Int), k < q → n.blocks[k]? = some b → ∀ s, f.data[b.toNat]? = some s → (s.length : Int) = min (n.size - 16 * (k : Int)) 16)
      (fun r => (r = .inl () ∧ ∀ (k : Nat) (b : Int), n.blocks[k]? = some b → ∀ s, f.data[b.toNat]? = some s → (s.length : Int) = min (n.size - 16 * (k : Int)) 16) ∨ (r = .inr (.inr (.inr false)) ∧ ¬ SizesOk f)) ⟨0, by simp, by omega, fun k s hk => by omega⟩ ?_ ?_
     ·rintro ⟨a, j⟩ ⟨q, e, g2, g3⟩
      injection e with e1 e2
      subst e1 e2
      dsimp only
      refine wp_if (fun hq => ?_) (fun hq => wp_out (.inl ⟨rfl, fun k b hb => g3 k b (by have := len_lt hb; omega) hb⟩))
      obtain ⟨b, hb⟩ := get_some (l := n.blocks) (i := q) (by omega)
      have hbr := ho.rng b (blk_mem hnn hb)
      obtain ⟨s, hs⟩ := get_some (l := f.data) (i := b.toNat) (by omega)
      rw [gt_ok hb, bsome, gtI hbr.1 hs, bsome, imin_eq]
      refine wp_if (fun hne => wp_out (.inr ⟨rfl, fun h => hne (h i n hnn q b hb s hs)⟩)) (fun he => ?_)
      rw [isub (by omega)]
      refine wp_back ⟨q + 1, ?_, by omega, fun k b' hk hb' s' hs' => ?_⟩ (by dsimp only; rw [ir_add1 (by omega)]; omega)
      ·rw [ir_add1 (by omega)]; congr 1; omega
      ·by_cases e : k = q
       ·subst e
        rw [hb] at hb'; cases hb'
        rw [hs] at hs'; cases hs'
        exact Classical.not_not.1 he
       ·exact g3 k b' (by omega) hb' s' hs'
     ·rintro r (⟨rfl, ha⟩ | ⟨rfl, hx⟩)
      ·refine wp_back ⟨i + 1, ir_add1 (by omega), by omega, fun j n' hj hn' => ?_⟩ (by rw [ir_add1 (by omega)]; omega)
       by_cases e : j = i
       ·subst e
        rw [hnn] at hn'; cases hn'
        exact ha
       ·exact h3 j n' (by omega) hn'
      ·exact wp_out (.inr ⟨rfl, hx⟩)
    ·rintro r (⟨rfl, hs⟩ | ⟨rfl, hs⟩)
     ·exact wp_yes ⟨by omega, by omega, fun n hn' => by rw [hn0] at hn'; cases hn'; exact Classical.not_not.1 hk, hnd, ho.good, hdo, hs⟩
     ·exact wp_no fun h => hs h.sizes
   ·exact wp_no fun h => hdo h.data
 ·injection e with e1 e2
  subst e2
  simp only [cond_false]
  exact wp_no fun h => hg h.good
/-! ### spec.ShapeOk -/
theorem good_cnt {d : Nat} {P : List Int} : GoodB d P ↔ cnt (Out d) P = 0 ∧ ∀ k : Nat, k < d → cnt (fun b => b = (k : Int)) P ≤ 1 := by
 constructor
 ·rintro ⟨h1, h2⟩
  refine ⟨?_, fun k _ => (nodup_cnt P).1 h2 k⟩
  have : ¬ 0 < cnt (Out d) P := fun hh => by
   obtain ⟨a, ha, hn⟩ := (cnt_pos _ _).1 hh
   have := h1 a ha
   exact hn (by omega)
  omega
 ·rintro ⟨h1, h2⟩
  have hr : ∀ b ∈ P, 0 ≤ b ∧ b < (d : Int) := fun b hb => Classical.byContradiction fun hn => by
   have := (cnt_pos (Out d) P).2 ⟨b, hb, fun hh => hn (by omega)⟩
   omega
  refine ⟨hr, (nodup_cnt P).2 fun k => ?_⟩
  by_cases hk : 0 ≤ k ∧ k < (d : Int)
  ·have := h2 k.toNat (by omega)
   rwa [Int.toNat_of_nonneg hk.1] at this
  ·have : ¬ 0 < cnt (fun b => b = k) P := fun hh => by
    obtain ⟨a, ha, e⟩ := (cnt_pos _ _).1 hh
    have := hr a ha
    omega
   omega
theorem s_l1Min (a b : Int) : sl1Min a b = some (min a b) := by
 unfold sl1Min; simp only [PN]
 by_cases h : a < b
 ·rw [if_pos h]; congr 1; omega
 ·rw [if_neg h]; congr 1; omega
theorem s_l6Long {a : Int} {k : Nat} (ha : 0 ≤ a ∧ a ≤ 80) (hk : k ≤ 80) : sl6Long a (k : Int) = some (min (a - 16 * (k : Int)) 16) := by
 unfold sl6Long
 rw [imul (by omega), isub (by omega), s_l1Min, bsome]
 congr 1; omega
theorem s_ShapeOk (f : FsD) : sShapeOk f = some (tb (ShapeOk f)) := by
 refine wp_eq ?_
 unfold sShapeOk
 simp only [PN, s_l1In, s_NodeOk]
 refine wp_if (fun hn => ?_) (fun hn => wp_no fun h => hn (by have := h.n1; omega))
 refine wp_if (fun hd => ?_) (fun hd => wp_no fun h => hd (by have := h.d1; omega))
 obtain ⟨n0, hn0⟩ := get_some (l := f.nodes) (i := 0) (by omega)
 rw [gt0 hn0, bsome]
 refine wp_if (fun hk => wp_no fun h => hk (h.root n0 hn0)) (fun hk => ?_)
 refine wp_loop (fun s => f.nodes.length - s.toNat) (fun s => ∃ i : Nat, s = (i : Int) ∧ i ≤ f.nodes.length ∧ ∀ (j : Nat) (n : NodeD), j < i → f.nodes[j]? = some n → NodeOk n)
   (fun r => (r = .inl () ∧ NodesOk f.nodes) ∨ (r = .inr false ∧ ¬ NodesOk f.nodes)) ⟨0, rfl, by omega, fun k s hk => by omega⟩ ?_ ?_
 ·rintro j ⟨i, rfl, h2, h3⟩
  refine wp_if (fun hi => ?_) (fun hi => wp_out (.inl ⟨rfl, fun k s hs => h3 k s (by have := len_lt hs; omega) hs⟩))
  obtain ⟨n, hnn⟩ := get_some (l := f.nodes) (i := i) (by omega)
  rw [gt_ok hnn, bsome]
  refine wp_if (fun ho => ?_) (fun ho => wp_out (.inr ⟨rfl, fun h => ho (h i n hnn)⟩))
  refine wp_back ⟨i + 1, ir_add1 (by omega), by omega, fun j n' hj hn' => ?_⟩ (by rw [ir_add1 (by omega)]; omega)
  by_cases e : j = i
  ·subst e
   rw [hnn] at hn'; cases hn'
   exact ho
  ·exact h3 j n' (by omega) hn'
 rintro r (⟨rfl, hnd⟩ | ⟨rfl, hnd⟩)
 case inr => exact wp_no fun h => hnd h.nodes
 rw [Sum.elim_inl]
 refine wp_bnd _ (s_l6Used f (by omega) (by omega) (fun i n hn => (hnd.h i n hn).1)) (fun u hu => ?_)
 rw [gt_ok hu.end_, bsome]
 refine wp_if (fun hx => wp_no fun h => by have := (good_cnt.1 h.good).1; omega) (fun hx => ?_)
 refine wp_loop (fun s => f.data.length - s.toNat) (fun s => ∃ i : Nat, s = (i : Int) ∧ i ≤ f.data.length ∧ ∀ (k : Nat) s, k < i → f.data[k]? = some s → cnt (fun b => b = (k : Int)) (blks f.nodes) ≤ 1 ∧ s.length ≤ 16 ∧ (¬ (k : Int) ∈ blks f.nodes → s = []))
   (fun r => (r = .inl () ∧ DataOk f ∧ GoodB f.data.length (blks f.nodes)) ∨ (r = .inr false ∧ ¬ ShapeOk f)) ⟨0, rfl, by omega, fun k s hk => by omega⟩ ?_ ?_
 ·rintro j ⟨i, rfl, h2, h3⟩
  refine wp_if (fun hi => ?_) (fun hi => wp_out (.inl ⟨rfl, fun k s hs => (h3 k s (by have := len_lt hs; omega) hs).2, good_cnt.2 ⟨by omega, fun k hk => ?_⟩⟩))
  ·obtain ⟨s, hs⟩ := get_some (l := f.data) (i := i) (by omega)
   have hum := hu.at_ i (by omega)
   rw [gt_ok hum, bsome]
   have hcm := cnt_pos (fun b => b = (i : Int)) (blks f.nodes)
   refine wp_if (fun hc => wp_out (.inr ⟨rfl, fun h => by have := (good_cnt.1 h.good).2 i (by omega); omega⟩)) (fun hc => ?_)
   have hstep : s.length ≤ 16 → (¬ (i : Int) ∈ blks f.nodes → s = []) → Wp (LpO (fun s => f.data.length - s.toNat) (fun s => ∃ i : Nat, s = (i : Int) ∧ i ≤ f.data.length ∧ ∀ (k : Nat) s, k < i → f.data[k]? = some s → cnt (fun b => b = (k : Int)) (blks f.nodes) ≤ 1 ∧ s.length ≤ 16 ∧ (¬ (k : Int) ∈ blks f.nodes → s = []))
     (fun r => (r = (Sum.inl () : Unit ⊕ Bool) ∧ DataOk f ∧ GoodB f.data.length (blks f.nodes)) ∨ (r = .inr false ∧ ¬ ShapeOk f)) (i : Int)) (some (.inl (iop .add .i64 (i : Int) 1))) := fun hl he => by
    refine wp_back ⟨i + 1, ir_add1 (by omega), by omega, fun k s' hk hs' => ?_⟩ (by rw [ir_add1 (by omega)]; omega)
    by_cases e : k = i
    ·subst e
     rw [hs] at hs'
     cases hs'
     exact ⟨by omega, hl, he⟩
    ·exact h3 k s' (by omega) hs'
   rw [gt_ok hs, bsome, bsome]
   refine wp_if (fun h0 => ?_) (fun h0 => ?_)
   ·have hnm : ¬ (i : Int) ∈ blks f.nodes := fun hm => by have := hcm.2 ⟨_, hm, rfl⟩; omega
    refine wp_if (fun hne => wp_out (.inr ⟨rfl, fun h => hne ((h.data i s hs).2 hnm)⟩)) (fun hne => ?_)
    exact wp_if (fun hl => wp_out (.inr ⟨rfl, fun h => by have := (h.data i s hs).1; omega⟩)) (fun hl => hstep (by omega) fun _ => Classical.not_not.1 hne)
   ·have hm : (i : Int) ∈ blks f.nodes := by
     obtain ⟨a, ha, e⟩ := hcm.1 (by omega)
     exact e ▸ ha
    exact wp_if (fun hl => wp_out (.inr ⟨rfl, fun h => by have := (h.data i s hs).1; omega⟩)) (fun hl => hstep (by omega) fun hn => absurd hm hn)
  ·obtain ⟨s, hs⟩ := get_some hk
   exact (h3 k s (by omega) hs).1
 rintro r (⟨rfl, hdo, hg⟩ | ⟨rfl, hdo⟩)
 case inr => exact wp_no hdo
 rw [Sum.elim_inl]
 refine wp_loop (fun s => f.nodes.length - s.toNat) (fun s => ∃ i : Nat, s = (i : Int) ∧ i ≤ f.nodes.length ∧ ∀ (j : Nat) (n : NodeD), j < i → f.nodes[j]? = some n → ∀ (k : Nat) (b : Int), n.blocks[k]? = some b → ∀ s, f.data[b.toNat]? = some s → (s.length : Int) = min (n.size - 16 * (k : Int)) 16)
  (fun r => (r = .inl () ∧ SizesOk f) ∨ (r = .inr false ∧ ¬ SizesOk f)) ⟨0, rfl, by omega, fun k s hk => by omega⟩ ?_ ?_
 ·rintro j ⟨i, rfl, h2, h3⟩
  refine wp_if (fun hi => ?_) (fun hi => wp_out (.inl ⟨rfl, fun k s hs => h3 k s (by have := len_lt hs; omega) hs⟩))
  obtain ⟨n, hnn⟩ := get_some (l := f.nodes) (i := i) (by omega)
  rw [gt_ok hnn, bsome]
  have hno := hnd i n hnn
  have hsz := hno.size
  have hbl := hno.len
  refine wp_loop (fun s => n.blocks.length - s.toNat) (fun s => ∃ q : Nat, s = (q : Int) ∧ q ≤ n.blocks.length ∧ ∀ (k : Nat) (b : Int), k < q → n.blocks[k]? = some b → ∀ s, f.data[b.toNat]? = some s → (s.length : Int) = min (n.size - 16 * (k : Int)) 16)
   (fun r => (r = .inl () ∧ ∀ (k : Nat) (b : Int), n.blocks[k]? = some b → ∀ s, f.data[b.toNat]? = some s → (s.length : Int) = min (n.size - 16 * (k : Int)) 16) ∨ (r = .inr (.inr (.inr false)) ∧ ¬ SizesOk f)) ⟨0, rfl, by omega, fun k s hk => by omega⟩ ?_ ?_
  ·rintro j ⟨q, rfl, g2, g3⟩
   refine wp_if (fun hq => ?_) (fun hq => wp_out (.inl ⟨rfl, fun k b hb => g3 k b (by have := len_lt hb; omega) hb⟩))
   obtain ⟨b, hb⟩ := get_some (l := n.blocks) (i := q) (by omega)
   have hbr := hg.1 b (blk_mem hnn hb)
   obtain ⟨s, hs⟩ := get_some (l := f.data) (i := b.toNat) (by omega)
   rw [gt_ok hb, bsome, gtI hbr.1 hs, bsome, s_l6Long hsz (by omega), bsome]
   refine wp_if (fun hne => wp_out (.inr ⟨rfl, fun h => hne (h i n hnn q b hb s hs)⟩)) (fun he => ?_)
   refine wp_back ⟨q + 1, ir_add1 (by omega), by omega, fun k b' hk hb' s' hs' => ?_⟩ (by rw [ir_add1 (by omega)]; omega)
   by_cases e : k = q
   ·subst e
    rw [hb] at hb'; cases hb'
    rw [hs] at hs'; cases hs'
    exact Classical.not_not.1 he
   ·exact g3 k b' (by omega) hb' s' hs'
  ·rintro r (⟨rfl, ha⟩ | ⟨rfl, hx⟩)
   ·refine wp_back ⟨i + 1, ir_add1 (by omega), by omega, fun j n' hj hn' => ?_⟩ (by rw [ir_add1 (by omega)]; omega)
    by_cases e : j = i
    ·subst e
     rw [hnn] at hn'; cases hn'
     exact ha
    ·exact h3 j n' (by omega) hn'
   ·exact wp_out (.inr ⟨rfl, hx⟩)
 ·rintro r (⟨rfl, hs⟩ | ⟨rfl, hs⟩)
  ·exact wp_yes ⟨by omega, by omega, fun n hn' => by rw [hn0] at hn'; cases hn'; exact Classical.not_not.1 hk, hnd, hg, hdo, hs⟩
  ·exact wp_no fun h => hs h.sizes
/-! ### The bits of the used blocks -/
theorem or8 (b : UInt8) (j : Nat) (hj : j < 8) (hb : b.toNat < 2 ^ j) : i2b (iop .or .u8 (b2i b) (iop .shl .u8 1 (j : Int))) = b + UInt8.ofNat (2 ^ j) := by
 have key : ∀ (j : Fin 8) (x : Fin 256), x.val < 2 ^ j.val → UInt8.ofNat (iopF .or .u8 ((UInt8.ofNat x.val).toNat : Int) (iopF .shl .u8 1 (j.val : Int))).toNat = UInt8.ofNat x.val + UInt8.ofNat (2 ^ j.val) := by decide +kernel
 rw [i2b_eq, b2i_eq, iop_eq]
 have := key ⟨j, hj⟩ ⟨b.toNat, b.toNat_lt⟩ hb
 simpa using this
theorem add8 (b : UInt8) (j : Nat) (hj : j < 8) (hb : b.toNat < 2 ^ j) : i2b (iop .add .u8 (b2i b) (wrp .u8 ((2 ^ j : Nat) : Int))) = b + UInt8.ofNat (2 ^ j) := by
 have key : ∀ (j : Fin 8) (x : Fin 256), x.val < 2 ^ j.val → UInt8.ofNat (iopF .add .u8 ((UInt8.ofNat x.val).toNat : Int) (IntKind.u8.wrap ((2 ^ j.val : Nat) : Int))).toNat = UInt8.ofNat x.val + UInt8.ofNat (2 ^ j.val) := by decide +kernel
 rw [i2b_eq, b2i_eq, iop_eq, wrp_eq]
 have := key ⟨j, hj⟩ ⟨b.toNat, b.toNat_lt⟩ hb
 simpa using this
theorem grow8 (b : UInt8) (j : Nat) (hj : j < 8) (hb : b.toNat < 2 ^ j) : (b + UInt8.ofNat (2 ^ j)).toNat < 2 ^ (j + 1) := by
 have key : ∀ (j : Fin 8) (x : Fin 256), x.val < 2 ^ j.val → (UInt8.ofNat x.val + UInt8.ofNat (2 ^ j.val)).toNat < 2 ^ (j.val + 1) := by decide +kernel
 have := key ⟨j, hj⟩ ⟨b.toNat, b.toNat_lt⟩ hb
 simpa using this
noncomputable def bitsN (p : Nat → Prop) (m : Nat) : Nat → List UInt8
 | 0 => List.replicate m 0
 | k + 1 => open Classical in if p k then (bitsN p m k).set (k / 8) ((bitsN p m k).getD (k / 8) 0 + UInt8.ofNat (2 ^ (k % 8))) else bitsN p m k
theorem bitsN_len (p : Nat → Prop) (m : Nat) : ∀ k, (bitsN p m k).length = m
 | 0 => by simp [bitsN]
 | k + 1 => by
  have := bitsN_len p m k
  unfold bitsN
  split
  ·simpa using this
  ·exact this
theorem bitsN_lt (p : Nat → Prop) (m : Nat) : ∀ k q b, (bitsN p m k)[q]? = some b → b.toNat < 2 ^ (min 8 (k - 8 * q))
 | 0, q, b, h => by
  unfold bitsN at h
  rw [List.getElem?_replicate] at h
  split at h
  ·cases h; simp
  ·cases h
 | k + 1, q, b, h => by
  have ih := bitsN_lt p m k
  have mono : ∀ b : UInt8, b.toNat < 2 ^ (min 8 (k - 8 * q)) → b.toNat < 2 ^ (min 8 (k + 1 - 8 * q)) := fun b hb =>
   Nat.lt_of_lt_of_le hb (Nat.pow_le_pow_right (by decide) (by omega))
  unfold bitsN at h
  split at h
  ·rw [List.getElem?_set] at h
   split at h
   ·rename_i e
    subst e
    split at h
    ·rename_i hlt
     cases h
     obtain ⟨y, hy⟩ := get_some hlt
     have := ih _ y hy
     rw [show min 8 (k - 8 * (k / 8)) = k % 8 by omega] at this
     have h2 := grow8 y (k % 8) (by omega) this
     rw [List.getD_eq_getElem?_getD, hy, show min 8 (k + 1 - 8 * (k / 8)) = k % 8 + 1 by omega]
     exact h2
    ·cases h
   ·exact mono b (ih q b h)
  ·exact mono b (ih q b h)
theorem s_l6Power (j : Nat) (hj : j < 8) : sl6Power (j : Int) = some ((2 ^ j : Nat) : Int) := by
 unfold sl6Power
 simp only [PN]
 refine bnd_up (fun i => (((2 ^ i : Nat) : Int), (i : Int))) j ((2 ^ j : Nat) : Int) rfl (fun i hi => ?_) ?_ rfl
 ·have h0 := Nat.two_pow_pos i
  have : 2 ^ i ≤ 2 ^ 7 := Nat.pow_le_pow_right (by decide) (by omega)
  dsimp only
  rw [if_pos (by omega), imul (by omega), ir_add1 (by omega), Nat.pow_succ]
  congr 3
 ·dsimp only
  rw [if_neg (by omega)]
/-! ### The blocks of an image -/
noncomputable def fsBlocks (f : FsD) : List (List UInt8) :=
 [[66, 65, 83, 78] ++ putNum (f.nodes.length : Int) ++ putNum (f.data.length : Int), bitsN (fun k => (k : Int) ∈ blks f.nodes) ((f.data.length + 7) / 8) f.data.length] ++ f.nodes.map nodeText ++ f.data
theorem fsBlocks_len (f : FsD) : (fsBlocks f).length = 2 + f.nodes.length + f.data.length := by simp [fsBlocks]; omega
theorem quo_8 (d : Nat) (h : d ≤ 36) : iop .quo .i64 (iop .add .i64 (d : Int) 7) 8 = (((d + 7) / 8 : Nat) : Int) := by
 rw [iadd (by omega), iquo (by omega) (by omega) (by omega)]; omega
theorem quo_k (d : Nat) (h : d ≤ 36) : iop .quo .i64 (d : Int) 8 = ((d / 8 : Nat) : Int) := by
 rw [iquo (by omega) (by omega) (by omega)]; omega
theorem rem_k (d : Nat) (h : d ≤ 36) : iop .rem .i64 (d : Int) 8 = ((d % 8 : Nat) : Int) := by
 rw [irem (by omega)]; omega
theorem map_take_snoc {α β : Type} (g : α → β) {l : List α} {i : Nat} {x : α} (h : l[i]? = some x) : (l.take (i + 1)).map g = (l.take i).map g ++ [g x] := by rw [take_snoc' h, List.map_append]; rfl
theorem bit_step {p : Nat → Prop} {m k : Nat} {y : UInt8} (hy : (bitsN p m k)[k / 8]? = some y) (hp : p k) : (bitsN p m k).set (k / 8) (y + UInt8.ofNat (2 ^ (k % 8))) = bitsN p m (k + 1) := by
 rw [show bitsN p m (k + 1) = @ite _ (p k) (Classical.propDecidable _) ((bitsN p m k).set (k / 8) ((bitsN p m k).getD (k / 8) 0 + UInt8.ofNat (2 ^ (k % 8)))) (bitsN p m k) from rfl, if_pos hp, List.getD_eq_getElem?_getD, hy]
 rfl
theorem bit_skip {p : Nat → Prop} {m k : Nat} (hp : ¬ p k) : bitsN p m k = bitsN p m (k + 1) := by
 rw [show bitsN p m (k + 1) = @ite _ (p k) (Classical.propDecidable _) ((bitsN p m k).set (k / 8) ((bitsN p m k).getD (k / 8) 0 + UInt8.ofNat (2 ^ (k % 8)))) (bitsN p m k) from rfl, if_neg hp]
theorem i_FsBlocks (f : FsD) : iFsBlocks f = some (@ite _ (ShapeOk f) (Classical.propDecidable _) (some (fsBlocks f)) none) := by
 refine wp_eq ?_
 unfold iFsBlocks
 simp only [i_ShapeOk, PN, i_PutNum]
 refine wp_if (fun hs => ?_) (fun hs => wp_some (by rw [if_neg hs]))
 rw [if_pos hs]
 have k1 := putNum_len (f.nodes.length : Int)
 have k2 := putNum_len (f.data.length : Int)
 have hd := hs.d1
 have hn := hs.n1
 refine wp_ck (room (by omega) (by omega)) (wp_ck (room (by omega) (by simp; omega)) ?_)
 refine wp_bnd _ (i_owners f (by omega) (by omega) hs.nodes.h) ?_
 rintro ⟨out, ok⟩ (⟨rfl, ho⟩ | ⟨e, hg⟩)
 case inr => exact absurd hs.good hg
 rw [quo_8 _ hd.2]
 refine wp_ck (ins (by omega)) (wp_ck (room (by omega) (by omega)) ?_)
 refine wp_loop (fun s => f.data.length - s.2.toNat) (fun s => ∃ k : Nat, s = (bitsN (fun k => (k : Int) ∈ blks f.nodes) ((f.data.length + 7) / 8) k, (k : Int)) ∧ k ≤ f.data.length)
  (fun r => r = bitsN (fun k => (k : Int) ∈ blks f.nodes) ((f.data.length + 7) / 8) f.data.length) ⟨0, by rw [rp_eq, Int.toNat_natCast]; rfl, by omega⟩ ?_ ?_
 ·rintro ⟨a, j⟩ ⟨k, e, hk⟩
  injection e with e1 e2
  subst e1 e2
  dsimp only
  rw [ho.len]
  refine wp_if (fun hi => ?_) (fun hi => wp_out (by rw [show k = f.data.length by omega]))
  obtain ⟨x, hx⟩ := get_some (l := out) (i := k) (by rw [ho.len]; omega)
  have hxx := ho.at_ k x hx
  rw [gt_ok hx, bsome, quo_k k (by omega), rem_k k (by omega)]
  refine wp_if (fun hp => ?_) (fun hp => ?_)
  ·obtain ⟨y, hy⟩ := get_some (l := bitsN (fun k => (k : Int) ∈ blks f.nodes) ((f.data.length + 7) / 8) k) (i := k / 8) (by rw [bitsN_len]; omega)
   have hlt := bitsN_lt _ _ _ _ _ hy
   rw [show min 8 (k - 8 * (k / 8)) = k % 8 by omega] at hlt
   rw [gt_ok hy, bsome]
   refine wp_ck (tb_pos (by omega)) ?_
   rw [or8 y (k % 8) (by omega) hlt, sl_eq, Int.toNat_natCast, bit_step hy (hxx.1 hp), ir_add1 (by omega)]
   exact wp_back ⟨k + 1, rfl, by omega⟩ (by dsimp only; omega)
  ·rw [bit_skip (p := fun k => (k : Int) ∈ blks f.nodes) (fun hh => hp (hxx.2 hh)), ir_add1 (by omega)]
   exact wp_back ⟨k + 1, rfl, by omega⟩ (by dsimp only; omega)
 ·rintro r rfl
  refine wp_loop (fun s => f.nodes.length - s.2.toNat) (fun s => ∃ i : Nat, s = ([[66, 65, 83, 78] ++ putNum (f.nodes.length : Int) ++ putNum (f.data.length : Int), bitsN (fun k => (k : Int) ∈ blks f.nodes) ((f.data.length + 7) / 8) f.data.length] ++ (f.nodes.take i).map nodeText, (i : Int)) ∧ i ≤ f.nodes.length)
   (fun r => r = [[66, 65, 83, 78] ++ putNum (f.nodes.length : Int) ++ putNum (f.data.length : Int), bitsN (fun k => (k : Int) ∈ blks f.nodes) ((f.data.length + 7) / 8) f.data.length] ++ f.nodes.map nodeText) ⟨0, by simp, by omega⟩ ?_ ?_
  ·rintro ⟨a, j⟩ ⟨i, e, hk⟩
   injection e with e1 e2
   subst e1 e2
   dsimp only
   refine wp_if (fun hi => ?_) (fun hi => wp_out (by rw [List.take_of_length_le (by omega)]))
   obtain ⟨n, hnn⟩ := get_some (l := f.nodes) (i := i) (by omega)
   rw [gt_ok hnn, bsome, i_NodeText, bsome]
   refine wp_ck (room (by omega) (by simp; omega)) ?_
   rw [ir_add1 (by omega), List.append_assoc _ ((f.nodes.take i).map nodeText), ← map_take_snoc nodeText hnn]
   exact wp_back ⟨i + 1, rfl, by omega⟩ (by dsimp only; omega)
  ·rintro r rfl
   refine wp_ck (room (by omega) (by simp; omega)) (wp_some ?_)
   rfl
theorem s_FsBlocks (f : FsD) : sFsBlocks f = some (@ite _ (ShapeOk f) (Classical.propDecidable _) (fsBlocks f) []) := by
 refine wp_eq ?_
 unfold sFsBlocks
 simp only [s_ShapeOk, PN, s_PutNum]
 refine wp_if (fun hs => ?_) (fun hs => wp_some (by rw [if_neg hs]))
 rw [if_pos hs]
 have k1 := putNum_len (f.nodes.length : Int)
 have k2 := putNum_len (f.data.length : Int)
 have hd := hs.d1
 have hn := hs.n1
 refine wp_ck (room (by omega) (by omega)) (wp_ck (room (by omega) (by simp; omega)) ?_)
 rw [quo_8 _ hd.2]
 refine wp_ck (ins (by omega)) (wp_ck (room (by omega) (by omega)) ?_)
 refine wp_bnd _ (s_l6Used f (by omega) (by omega) (fun i n hn => (hs.nodes.h i n hn).1)) (fun u hu => ?_)
 refine wp_loop (fun s => f.data.length - s.2.toNat) (fun s => ∃ k : Nat, s = (bitsN (fun k => (k : Int) ∈ blks f.nodes) ((f.data.length + 7) / 8) k, (k : Int)) ∧ k ≤ f.data.length)
  (fun r => r = bitsN (fun k => (k : Int) ∈ blks f.nodes) ((f.data.length + 7) / 8) f.data.length) ⟨0, by rw [rp_eq, Int.toNat_natCast]; rfl, by omega⟩ ?_ ?_
 ·rintro ⟨a, j⟩ ⟨k, e, hk⟩
  injection e with e1 e2
  subst e1 e2
  dsimp only
  refine wp_if (fun hi => ?_) (fun hi => wp_out (by rw [show k = f.data.length by omega]))
  have hxx := cnt_pos (fun b => b = (k : Int)) (blks f.nodes)
  rw [gt_ok (hu.at_ k (by omega)), bsome, quo_k k (by omega), rem_k k (by omega)]
  refine wp_if (fun hp => ?_) (fun hp => ?_)
  ·obtain ⟨y, hy⟩ := get_some (l := bitsN (fun k => (k : Int) ∈ blks f.nodes) ((f.data.length + 7) / 8) k) (i := k / 8) (by rw [bitsN_len]; omega)
   have hlt := bitsN_lt _ _ _ _ _ hy
   rw [show min 8 (k - 8 * (k / 8)) = k % 8 by omega] at hlt
   obtain ⟨c, hc, e⟩ := hxx.1 (by omega)
   rw [gt_ok hy, bsome, s_l6Power _ (by omega), bsome, add8 y (k % 8) (by omega) hlt, sl_eq, Int.toNat_natCast, bit_step (p := fun k => (k : Int) ∈ blks f.nodes) hy (by have e : c = (k : Int) := e; rw [← e]; exact hc), ir_add1 (by omega)]
   exact wp_back ⟨k + 1, rfl, by omega⟩ (by dsimp only; omega)
  ·rw [bit_skip (k := k) (p := fun k => (k : Int) ∈ blks f.nodes) (fun hh => by have := hxx.2 ⟨_, hh, rfl⟩; omega), ir_add1 (by omega)]
   exact wp_back ⟨k + 1, rfl, by omega⟩ (by dsimp only; omega)
 ·rintro r rfl
  refine wp_ck (room (by omega) (by omega)) ?_
  refine wp_loop (fun s => f.nodes.length - s.2.toNat) (fun s => ∃ i : Nat, s = ([[66, 65, 83, 78] ++ putNum (f.nodes.length : Int) ++ putNum (f.data.length : Int), bitsN (fun k => (k : Int) ∈ blks f.nodes) ((f.data.length + 7) / 8) f.data.length] ++ (f.nodes.take i).map nodeText, (i : Int)) ∧ i ≤ f.nodes.length)
   (fun r => r = [[66, 65, 83, 78] ++ putNum (f.nodes.length : Int) ++ putNum (f.data.length : Int), bitsN (fun k => (k : Int) ∈ blks f.nodes) ((f.data.length + 7) / 8) f.data.length] ++ f.nodes.map nodeText) ⟨0, by simp, by omega⟩ ?_ ?_
  ·rintro ⟨a, j⟩ ⟨i, e, hk⟩
   injection e with e1 e2
   subst e1 e2
   dsimp only
   refine wp_if (fun hi => ?_) (fun hi => wp_out (by rw [List.take_of_length_le (by omega)]))
   obtain ⟨n, hnn⟩ := get_some (l := f.nodes) (i := i) (by omega)
   rw [gt_ok hnn, bsome, s_NodeText, bsome]
   refine wp_ck (room (by omega) (by simp; omega)) ?_
   rw [ir_add1 (by omega), List.append_assoc _ ((f.nodes.take i).map nodeText), ← map_take_snoc nodeText hnn]
   exact wp_back ⟨i + 1, rfl, by omega⟩ (by dsimp only; omega)
  ·rintro r rfl
   refine wp_ck (room (by omega) (by simp; omega)) (wp_some ?_)
   rfl
end Go.Ar
end
section
namespace Go.Ar
open Go.Proofs
set_option linter.unusedVariables false
set_option linter.unusedSimpArgs false
set_option maxRecDepth 20000
/-! ### Transactions -/
structure TxOk (n : Int) (l : List PutD) : Prop where
 n1 : 1 ≤ n ∧ n ≤ 48
 ne : ¬ (l.length : Int) = 0
 rng : ∀ (i : Nat) (w : PutD), l[i]? = some w → (0 ≤ w.pos ∧ w.pos ≤ n - 1) ∧ w.data.length ≤ 90
 inc : ∀ (i : Nat) (w v : PutD), l[i]? = some w → l[i + 1]? = some v → w.pos < v.pos
theorem i_short (s : List UInt8) : ishort s = some (tb ((s.length : Int) ≤ 90)) := by unfold ishort; simp only [PN]
theorem i_TxOk (n : Int) (l : List PutD) (hl : l.length ≤ 1000000) : iTxOk n l = some (tb (TxOk n l)) := by
 refine wp_eq ?_
 unfold iTxOk
 simp only [i_within, i_short, PN]
 refine wp_if (fun hn => ?_) (fun hn => wp_no fun h => hn h.n1)
 refine wp_if (fun he => wp_no fun h => h.ne he) (fun he => ?_)
 refine wp_loop (fun s => l.length - s.2.toNat) (fun s => ∃ i : Nat, s.2 = (i : Int) ∧ i ≤ l.length ∧ ((i = 0 ∧ s.1 = -1) ∨ (1 ≤ i ∧ ∃ w, l[i - 1]? = some w ∧ s.1 = w.pos ∧ 0 ≤ w.pos ∧ w.pos ≤ n - 1)) ∧
   (∀ (j : Nat) (w : PutD), j < i → l[j]? = some w → (0 ≤ w.pos ∧ w.pos ≤ n - 1) ∧ w.data.length ≤ 90) ∧ (∀ (j : Nat) (w v : PutD), j + 1 < i → l[j]? = some w → l[j + 1]? = some v → w.pos < v.pos))
  (fun r => (r = .inl () ∧ TxOk n l) ∨ (r = .inr false ∧ ¬ TxOk n l)) ⟨0, rfl, by omega, .inl ⟨rfl, rfl⟩, fun j w hj => by omega, fun j w v hj => by omega⟩ ?_ ?_
 ·rintro ⟨a, j⟩ ⟨i, h1, h2, h3, h4, h5⟩
  dsimp only at h1 h3 ⊢
  subst h1
  refine wp_if (fun hi => ?_) (fun hi => wp_out (.inl ⟨rfl, hn, he, fun j w hw => h4 j w (by have := len_lt hw; omega) hw, fun j w v hw hv => h5 j w v (by have := len_lt hv; omega) hw hv⟩))
  obtain ⟨w, hw⟩ := get_some (l := l) (i := i) (by omega)
  have ha : -1 ≤ a ∧ a ≤ n - 1 := by rcases h3 with ⟨_, e⟩ | ⟨_, w', _, e, e1, e2⟩ <;> omega
  rw [gt_ok hw, bsome, iadd (by omega), isub (by omega)]
  refine wp_if (fun hr => ?_) (fun hr => wp_out (.inr ⟨rfl, fun h => hr ?_⟩))
  ·refine wp_if (fun hs => ?_) (fun hs => wp_out (.inr ⟨rfl, fun h => hs (by have := (h.rng i w hw).2; omega)⟩))
   refine wp_back ⟨i + 1, ir_add1 (by omega), by omega, .inr ⟨by omega, w, by rw [Nat.add_sub_cancel]; exact hw, rfl, by omega, by omega⟩, fun j v hj hv => ?_, fun j u v hj hu hv => ?_⟩ (by dsimp only; rw [ir_add1 (by omega)]; omega)
   ·by_cases e : j = i
    ·subst e
     rw [hw] at hv; cases hv
     exact ⟨by omega, by omega⟩
    ·exact h4 j v (by omega) hv
   ·by_cases e : j + 1 = i
    ·rw [e, hw] at hv; cases hv
     rcases h3 with ⟨e0, _⟩ | ⟨_, w', hw', e1, _, _⟩
     ·omega
     ·rw [show i - 1 = j by omega, hu] at hw'; cases hw'
      omega
    ·exact h5 j u v (by omega) hu hv
  ·have := h.rng i w hw
   rcases h3 with ⟨e0, e1⟩ | ⟨_, w', hw', e1, _, _⟩
   ·omega
   ·have := h.inc (i - 1) w' w hw' (by rw [show i - 1 + 1 = i by omega]; exact hw)
    omega
 ·rintro r (⟨rfl, h⟩ | ⟨rfl, h⟩)
  ·exact wp_yes h
  ·exact wp_no h
theorem s_l3PutsOk (n : Int) (hn : 1 ≤ n ∧ n ≤ 1000) (l : List PutD) (hl : l.length ≤ 1000000) : sl3PutsOk l n = some (tb (∀ (i : Nat) (w : PutD), l[i]? = some w → (0 ≤ w.pos ∧ w.pos ≤ n - 1) ∧ w.data.length ≤ 90)) := by
 unfold sl3PutsOk
 simp only [s_l1In, PN]
 refine bnd_first (fun i : Nat => (i : Int)) l (fun i w => (0 ≤ w.pos ∧ w.pos ≤ n - 1) ∧ w.data.length ≤ 90) (fun _ _ => .inr false) (.inl ()) rfl (fun i y hy _ h => ?_) (fun i y hy _ h => ?_) (fun h => ?_) (fun h => ?_) (fun k y hy hn hj => ?_)
 ·have := len_lt hy
  rw [if_pos (by omega), gt_ok hy, bsome, isub (by omega), if_pos h.1, if_neg (by omega), ir_add1 (by omega)]
 ·have := len_lt hy
  rw [if_pos (by omega), gt_ok hy, bsome, isub (by omega)]
  by_cases h1 : 0 ≤ y.pos ∧ y.pos ≤ n - 1
  ·rw [if_pos h1, if_pos (by omega)]
  ·rw [if_neg h1]
 ·rw [if_neg (by omega)]
 ·exact some_tb (iff_of_true rfl h)
 ·exact some_tb (iff_of_false (by simp) fun h => hn (h k y hy))
theorem s_TxOk (n : Int) (l : List PutD) (hl : l.length ≤ 1000000) : sTxOk n l = some (tb (TxOk n l)) := by
 refine wp_eq ?_
 unfold sTxOk
 simp only [s_l1In, PN]
 refine wp_if (fun hn => ?_) (fun hn => wp_no fun h => hn h.n1)
 refine wp_if (fun he => wp_no fun h => h.ne he) (fun he => ?_)
 rw [s_l3PutsOk n (by omega) l hl, bsome, cond_tb]
 refine wp_if (fun hr => ?_) (fun hr => wp_no fun h => hr h.rng)
 refine wp_loop (fun s => l.length - s.toNat) (fun s => ∃ i : Nat, s = ((i + 1 : Nat) : Int) ∧ i + 1 ≤ l.length ∧ ∀ (j : Nat) (w v : PutD), j < i → l[j]? = some w → l[j + 1]? = some v → w.pos < v.pos)
  (fun r => (r = .inl () ∧ TxOk n l) ∨ (r = .inr false ∧ ¬ TxOk n l)) ⟨0, rfl, by omega, fun j w v hj => by omega⟩ ?_ ?_
 ·rintro j ⟨i, rfl, h2, h3⟩
  refine wp_if (fun hi => ?_) (fun hi => wp_out (.inl ⟨rfl, hn, he, hr, fun j w v hw hv => h3 j w v (by have := len_lt hv; omega) hw hv⟩))
  obtain ⟨w, hw⟩ := get_some (l := l) (i := i + 1) (by omega)
  obtain ⟨v, hv⟩ := get_some (l := l) (i := i) (by omega)
  rw [gt_ok hw, bsome, isub (by omega), show ((i + 1 : Nat) : Int) - 1 = (i : Int) by omega, gt_ok hv, bsome]
  refine wp_if (fun hle => wp_out (.inr ⟨rfl, fun h => by have := h.inc i v w hv hw; omega⟩)) (fun hlt => ?_)
  refine wp_back ⟨i + 1, ir_add1 (by omega), by omega, fun j a b hj ha hb => ?_⟩ (by rw [ir_add1 (by omega)]; omega)
  by_cases e : j = i
  ·subst e
   rw [hv] at ha; cases ha
   rw [hw] at hb; cases hb
   omega
  ·exact h3 j a b (by omega) ha hb
 ·rintro r (⟨rfl, h⟩ | ⟨rfl, h⟩)
  ·exact wp_yes h
  ·exact wp_no h
/-! ### Checksums -/
noncomputable def putText (s : List UInt8) : List UInt8 := putNum (s.length : Int) ++ s
theorem putText_len (s : List UInt8) : (putText s).length ≤ 5 + s.length := by
 have := putNum_len (s.length : Int)
 unfold putText; rw [List.length_append]; omega
theorem i_PutText (s : List UInt8) (h : s.length ≤ 2000000) : iPutText s = some (putText s) := by
 have := putNum_len (s.length : Int)
 unfold iPutText
 simp only [i_PutNum, PN]
 rw [ck_in (room (by omega) (by omega))]; rfl
theorem s_PutText (s : List UInt8) (h : s.length ≤ 2000000) : sPutText s = some (putText s) := by
 have := putNum_len (s.length : Int)
 unfold sPutText
 simp only [s_PutNum, PN]
 rw [ck_in (room (by omega) (by omega)), ck_in (room (by omega) (by omega))]; rfl
def crcS (x : Nat) : Nat := if x % 2 = 1 then (x / 2) ^^^ 3988292384 else x / 2
def crcN : Nat → Nat → Nat
 | 0, x => x
 | n + 1, x => crcS (crcN n x)
def crcB (x : Nat) (b : UInt8) : Nat := crcN 8 (x ^^^ b.toNat)
def crc (l : List UInt8) : Nat := (l.foldl crcB 4294967295) ^^^ 4294967295
theorem xor_lt {a b : Nat} (ha : a < 4294967296) (hb : b < 4294967296) : a ^^^ b < 4294967296 := Nat.xor_lt_two_pow (n := 32) ha hb
theorem crcS_lt {x : Nat} (h : x < 4294967296) : crcS x < 4294967296 := by
 unfold crcS; split
 ·exact xor_lt (by omega) (by decide)
 ·omega
theorem crcN_lt {x : Nat} (h : x < 4294967296) : ∀ n, crcN n x < 4294967296
 | 0 => h
 | n + 1 => crcS_lt (crcN_lt h n)
theorem crcB_lt {x : Nat} {b : UInt8} (h : x < 4294967296) : crcB x b < 4294967296 := crcN_lt (xor_lt h (by have := b.toNat_lt; omega)) 8
theorem crcF_lt : ∀ (l : List UInt8) (x : Nat), x < 4294967296 → l.foldl crcB x < 4294967296
 | [], x, h => h
 | b :: l, x, h => crcF_lt l _ (crcB_lt h)
theorem n_xor {a b : Nat} (ha : a < 4294967296) (hb : b < 4294967296) : iop .xor .i64 (a : Int) (b : Int) = ((a ^^^ b : Nat) : Int) := by
 rw [iop_eq]
 show IntKind.i64.wrap ((BitVec.ofInt 64 (a : Int) ^^^ BitVec.ofInt 64 (b : Int)).toNat : Int) = _
 have e : (BitVec.ofInt 64 (a : Int) ^^^ BitVec.ofInt 64 (b : Int)).toNat = a ^^^ b := by
  rw [BitVec.toNat_xor]
  have e1 : (BitVec.ofInt 64 (a : Int)).toNat = a := by simp [BitVec.toNat_ofInt]; omega
  have e2 : (BitVec.ofInt 64 (b : Int)).toNat = b := by simp [BitVec.toNat_ofInt]; omega
  rw [e1, e2]
 have := xor_lt ha hb
 rw [e, w64 (by omega)]
theorem n_and1 {m : Nat} (h : m < 4294967296) : iop .and .i64 (m : Int) 1 = ((m % 2 : Nat) : Int) := by
 rw [iop_eq]
 show IntKind.i64.wrap ((BitVec.ofInt 64 (m : Int) &&& BitVec.ofInt 64 1).toNat : Int) = _
 have e : (BitVec.ofInt 64 (m : Int) &&& BitVec.ofInt 64 1).toNat = m % 2 := by
  rw [BitVec.toNat_and]
  have e1 : (BitVec.ofInt 64 (m : Int)).toNat = m := by simp [BitVec.toNat_ofInt]; omega
  have e2 : (BitVec.ofInt 64 1).toNat = 2 ^ 1 - 1 := by decide
  rw [e1, e2, Nat.and_two_pow_sub_one_eq_mod]
 rw [e, w64 (by omega)]
theorem n_shr1 {m : Nat} : iop .shr .i64 (m : Int) 1 = ((m / 2 : Nat) : Int) := by
 rw [show (1 : Int) = ((1 : Nat) : Int) from rfl, ishr 1 (by omega) (by omega)]; omega
theorem n_byte (y : UInt8) : wrp .i64 (b2i y) = ((y.toNat : Nat) : Int) := by rw [wrp_eq, b2i_eq, w64 (by have := y.toNat_lt; omega)]
theorem take_foldl {α β : Type} (g : β → α → β) {l : List α} {i : Nat} {x : α} (h : l[i]? = some x) (b : β) : (l.take (i + 1)).foldl g b = g ((l.take i).foldl g b) x := by rw [take_snoc' h, List.foldl_append]; rfl
theorem i_Crc (l : List UInt8) (hl : l.length ≤ 4000000) : iCrc l = some ((crc l : Nat) : Int) := by
 unfold iCrc
 simp only [PN]
 refine bnd_up (fun i => (((l.take i).foldl crcB 4294967295 : Nat), (i : Int))) l.length ((l.foldl crcB 4294967295 : Nat) : Int) (by simp) (fun i hi => ?_) ?_ ?_
 ·obtain ⟨y, hy⟩ := get_some hi
  have h1 := crcF_lt (l.take i) 4294967295 (by omega)
  have hy2 := y.toNat_lt
  dsimp only
  rw [if_pos (by omega), gt_ok hy, bsome, n_byte, n_xor h1 (by omega), take_foldl crcB hy]
  generalize (l.take i).foldl crcB 4294967295 = x at *
  have hx := xor_lt h1 (show y.toNat < 4294967296 by omega)
  refine bnd_up (fun q => ((crcN q (x ^^^ y.toNat) : Nat), (q : Int))) 8 ((crcN 8 (x ^^^ y.toNat) : Nat) : Int) rfl (fun q hq => ?_) ?_ (by rw [ir_add1 (by omega)]; rfl)
  ·have h2 := crcN_lt hx q
   dsimp only
   rw [if_pos (by omega), n_and1 h2, n_shr1, show (3988292384 : Int) = ((3988292384 : Nat) : Int) from rfl, n_xor (by omega) (by decide), ir_add1 (by omega)]
   rw [show crcN (q + 1) (x ^^^ y.toNat) = crcS (crcN q (x ^^^ y.toNat)) from rfl]
   generalize crcN q (x ^^^ y.toNat) = z at *
   unfold crcS
   by_cases hz : z % 2 = 1
   ·rw [if_pos (by omega), if_pos hz]
   ·rw [if_neg (by omega), if_neg hz]
  ·dsimp only
   rw [if_neg (by omega)]
 ·dsimp only
  rw [if_neg (by omega), List.take_length]
 ·rw [show (4294967295 : Int) = ((4294967295 : Nat) : Int) from rfl, n_xor (crcF_lt _ _ (by omega)) (by decide)]; rfl
theorem s_Crc (l : List UInt8) (hl : l.length ≤ 4000000) : sCrc l = some ((crc l : Nat) : Int) := by
 unfold sCrc
 simp only [PN]
 refine bnd_up (fun i => (((l.take i).foldl crcB 4294967295 : Nat), (i : Int))) l.length ((l.foldl crcB 4294967295 : Nat) : Int) (by simp) (fun i hi => ?_) ?_ ?_
 ·obtain ⟨y, hy⟩ := get_some hi
  have h1 := crcF_lt (l.take i) 4294967295 (by omega)
  have hy2 := y.toNat_lt
  dsimp only
  rw [if_pos (by omega), gt_ok hy, bsome, n_byte, n_xor h1 (by omega), take_foldl crcB hy]
  generalize (l.take i).foldl crcB 4294967295 = x at *
  have hx := xor_lt h1 (show y.toNat < 4294967296 by omega)
  refine bnd_up (fun q => ((crcN q (x ^^^ y.toNat) : Nat), (q : Int))) 8 ((crcN 8 (x ^^^ y.toNat) : Nat) : Int) rfl (fun q hq => ?_) ?_ (by rw [ir_add1 (by omega)]; rfl)
  ·have h2 := crcN_lt hx q
   dsimp only
   rw [if_pos (by omega), irem (by omega), iquo (by omega) (by omega) (by omega), show ((crcN q (x ^^^ y.toNat) : Nat) : Int) / 2 = ((crcN q (x ^^^ y.toNat) / 2 : Nat) : Int) by omega,
    show (3988292384 : Int) = ((3988292384 : Nat) : Int) from rfl, n_xor (by omega) (by decide), ir_add1 (by omega)]
   rw [show crcN (q + 1) (x ^^^ y.toNat) = crcS (crcN q (x ^^^ y.toNat)) from rfl]
   generalize crcN q (x ^^^ y.toNat) = z at *
   unfold crcS
   by_cases hz : z % 2 = 1
   ·rw [if_pos (by omega), if_pos hz]
   ·rw [if_neg (by omega), if_neg hz]
  ·dsimp only
   rw [if_neg (by omega)]
 ·dsimp only
  rw [if_neg (by omega), List.take_length]
 ·rw [show (4294967295 : Int) = ((4294967295 : Nat) : Int) from rfl, n_xor (crcF_lt _ _ (by omega)) (by decide)]; rfl
/-! ### Heads -/
noncomputable def dataSum (l : List (List UInt8)) : Nat := crc (l.flatMap putText)
/-- Not too many texts, none too long. -/
def Small (l : List (List UInt8)) : Prop := l.length ≤ 200 ∧ ∀ s ∈ l, s.length ≤ 1000
theorem Small.flat {l : List (List UInt8)} (h : Small l) (i : Nat) : ((l.take i).flatMap putText).length ≤ 201000 := by
 have h1 := flatMap_len putText 1005 (l.take i) fun x hx => by
  have := putText_len x
  have := h.2 x (List.mem_of_mem_take hx)
  omega
 have : (l.take i).length ≤ l.length := by simp; omega
 have := h.1
 omega
theorem i_dataSum {l : List (List UInt8)} (h : Small l) : idataSum l = some ((dataSum l : Nat) : Int) := by
 unfold idataSum
 simp only [PN]
 have hl := h.1
 have hf := h.flat l.length
 rw [List.take_length] at hf
 refine bnd_flat (fun i b => (b, (i : Int))) putText l [] (l.flatMap putText) rfl (fun i x hx => ?_) ?_ ?_
 ·have h1 := len_lt hx
  have h2 := h.flat i
  have h3 := putText_len x
  have h4 := h.2 x (List.mem_of_getElem? hx)
  dsimp only
  rw [if_pos (by omega), gt_ok hx, bsome, i_PutText x (by omega), bsome, ck_in (room (by omega) (by simp only [List.nil_append]; omega)), ir_add1 (by omega)]
 ·dsimp only
  rw [if_neg (by omega), List.nil_append]
 ·rw [i_Crc _ (by omega)]; rfl
theorem s_l4Sum {l : List (List UInt8)} (h : Small l) : sl4Sum l = some ((dataSum l : Nat) : Int) := by
 unfold sl4Sum
 simp only [PN]
 have hl := h.1
 have hf := h.flat l.length
 rw [List.take_length] at hf
 refine bnd_flat (fun i b => (b, (i : Int))) putText l [] (l.flatMap putText) rfl (fun i x hx => ?_) ?_ ?_
 ·have h1 := len_lt hx
  have h2 := h.flat i
  have h3 := putText_len x
  have h4 := h.2 x (List.mem_of_getElem? hx)
  dsimp only
  rw [if_pos (by omega), gt_ok hx, bsome, s_PutText x (by omega), bsome, ck_in (room (by omega) (by simp only [List.nil_append]; omega)), ir_add1 (by omega)]
 ·dsimp only
  rw [if_neg (by omega), List.nil_append]
 ·rw [s_Crc _ (by omega)]; rfl
end Go.Ar
end
section
namespace Go.Ar
open Go.Proofs
set_option linter.unusedVariables false
set_option linter.unusedSimpArgs false
set_option maxRecDepth 20000
/-! ### Numbers read -/
def getN : Nat → Nat → Nat → List UInt8 → Option (Nat × Nat)
 | 0, _, _, _ => none
 | _ + 1, _, _, [] => none
 | f + 1, k, n, x :: t => if 128 ≤ x.toNat then getN f (k + 1) (n + x.toNat % 128 * 128 ^ k) t else if (0 < k ∧ x.toNat = 0) ∨ 2147483647 < n + x.toNat % 128 * 128 ^ k then none else some (n + x.toNat % 128 * 128 ^ k, k + 1)
def getNum (b : List UInt8) (at_ : Int) : Int × Int × Bool :=
 if 0 ≤ at_ then (match getN 5 0 0 (b.drop at_.toNat) with | some (m, c) => ((m : Int), at_ + (c : Int), true) | none => (0, 0, false)) else (0, 0, false)
theorem pow128 (k : Nat) : 2 ^ (7 * k) = 128 ^ k := by rw [Nat.pow_mul]
theorem p128 {k : Nat} (h : k < 5) : 1 ≤ 128 ^ k ∧ 128 ^ k ≤ 268435456 := by
 have : 128 ^ k ≤ 128 ^ 4 := Nat.pow_le_pow_right (by decide) (by omega)
 exact ⟨Nat.pos_of_ne_zero (by simp), by omega⟩
theorem n_shl7 {m k : Nat} (hm : m < 128) (hk : k < 5) : iop .shl .i64 (m : Int) (iop .mul .i64 7 (k : Int)) = ((m * 128 ^ k : Nat) : Int) := by
 obtain ⟨h1, h2⟩ := p128 hk
 rw [imul (by omega), iop_eq]
 show IntKind.i64.wrap ((m : Int) * 2 ^ (min (7 * (k : Int)).toNat 64)) = _
 rw [show min (7 * (k : Int)).toNat 64 = 7 * k by omega]
 have e : ((m : Int) * 2 ^ (7 * k)) = ((m * 128 ^ k : Nat) : Int) := by
  rw [← pow128]; simp
 have h3 : m * 128 ^ k ≤ 127 * 268435456 := Nat.mul_le_mul (by omega) h2
 rw [e, w64 (by omega)]
theorem n_orS {n m k : Nat} (hn : n < 128 ^ k) (hm : m < 128) (hk : k < 5) : iop .or .i64 (n : Int) ((m * 128 ^ k : Nat) : Int) = ((n + m * 128 ^ k : Nat) : Int) := by
 obtain ⟨h1, h2⟩ := p128 hk
 have h3 : m * 128 ^ k ≤ 127 * 268435456 := Nat.mul_le_mul (by omega) h2
 rw [iop_eq]
 show IntKind.i64.wrap ((BitVec.ofInt 64 (n : Int) ||| BitVec.ofInt 64 ((m * 128 ^ k : Nat) : Int)).toNat : Int) = _
 have e : (BitVec.ofInt 64 (n : Int) ||| BitVec.ofInt 64 ((m * 128 ^ k : Nat) : Int)).toNat = n + m * 128 ^ k := by
  rw [BitVec.toNat_or]
  have e1 : (BitVec.ofInt 64 (n : Int)).toNat = n := by simp [BitVec.toNat_ofInt]; omega
  have e2 : (BitVec.ofInt 64 ((m * 128 ^ k : Nat) : Int)).toNat = m * 128 ^ k := by
   rw [BitVec.toNat_ofInt]; omega
  have := Nat.two_pow_add_eq_or_of_lt (i := 7 * k) (b := n) (by rw [pow128]; exact hn) m
  rw [e1, e2, Nat.or_comm, ← pow128, Nat.mul_comm m, ← this, Nat.add_comm]
 rw [e, w64 (by omega)]
theorem n_rem128' (y : UInt8) : iop .rem .i64 ((y.toNat : Nat) : Int) 128 = ((y.toNat % 128 : Nat) : Int) := by rw [irem (by omega)]; omega
theorem lt_step {n m k : Nat} (hn : n < 128 ^ k) (hm : m < 128) : n + m * 128 ^ k < 128 ^ (k + 1) := by
 rw [Nat.pow_succ, Nat.mul_comm (128 ^ k)]
 have : m * 128 ^ k ≤ 127 * 128 ^ k := Nat.mul_le_mul_right _ (by omega)
 omega
theorem drop_ge {α : Type} {l : List α} {i : Nat} (h : l.length ≤ i) : l.drop i = [] := List.drop_eq_nil_of_le h
theorem i_GetNum (b : List UInt8) (a : Int) (hb : b.length ≤ 1000000) : iGetNum b a = some (getNum b a) := by
 refine wp_eq ?_
 unfold iGetNum getNum
 simp only [i_within, PN, n_byte]
 refine wp_if (fun ha => ?_) (fun ha => wp_some ?_)
 ·rw [if_pos ha.1]
  obtain ⟨p, rfl⟩ : ∃ p : Nat, a = (p : Int) := ⟨a.toNat, by omega⟩
  rw [Int.toNat_natCast]
  refine wp_loop (fun s => 5 - s.2.toNat) (fun s => ∃ k n : Nat, s = ((n : Int), (k : Int)) ∧ k ≤ 5 ∧ n < 128 ^ k ∧ getN 5 0 0 (b.drop p) = getN (5 - k) k n (b.drop (p + k)))
   (fun r => (r = .inl () ∧ getN 5 0 0 (b.drop p) = none) ∨ ∃ q, r = .inr q ∧ q = (match getN 5 0 0 (b.drop p) with | some (m, c) => ((m : Int), (p : Int) + (c : Int), true) | none => (0, 0, false))) ⟨0, 0, rfl, by omega, by decide, rfl⟩ ?_ ?_
  ·rintro ⟨x, y⟩ ⟨k, n, e, hk, hn, hg⟩
   injection e with e1 e2
   subst e1 e2
   dsimp only
   refine wp_if (fun h5 => ?_) (fun h5 => wp_out (.inl ⟨rfl, by rw [hg, show 5 - k = 0 by omega]; rfl⟩))
   rw [iadd (a := (p : Int)) (by omega)]
   refine wp_if (fun hl => ?_) (fun hl => wp_out (.inl ⟨rfl, by rw [hg, drop_ge (by omega), show 5 - k = (4 - k) + 1 by omega]; rfl⟩))
   obtain ⟨y, hy⟩ := get_some (l := b) (i := p + k) (by omega)
   have hd := drop_at hy
   rw [hd, show 5 - k = (4 - k) + 1 by omega, getN] at hg
   have hy2 := y.toNat_lt
   have hm : y.toNat % 128 < 128 := Nat.mod_lt _ (by decide)
   rw [show (p : Int) + (k : Int) = ((p + k : Nat) : Int) by omega, gt_ok hy, bsome]
   refine wp_ck (tb_pos (by rw [imul (by omega)]; omega)) ?_
   rw [n_and127 (by omega), n_shl7 hm (by omega), n_orS hn hm (by omega)]
   refine wp_if (fun h128 => ?_) (fun h128 => ?_)
   ·rw [if_pos (by omega)] at hg
    rw [ir_add1 (by omega)]
    exact wp_back ⟨k + 1, _, rfl, by omega, lt_step hn hm, by rw [hg, show 5 - (k + 1) = 4 - k by omega]; rfl⟩ (by dsimp only; omega)
   ·rw [if_neg (by omega)] at hg
    simp only [bite, bsome, Sum.elim_inl, Sum.elim_inr]
    have hbad : ((0 < k ∧ y.toNat = 0) ∨ 2147483647 < n + y.toNat % 128 * 128 ^ k) → Wp (LpO (fun s : Int × Int => 5 - s.2.toNat) (fun s => ∃ k n : Nat, s = ((n : Int), (k : Int)) ∧ k ≤ 5 ∧ n < 128 ^ k ∧ getN 5 0 0 (b.drop p) = getN (5 - k) k n (b.drop (p + k)))
      (fun r : Unit ⊕ (Int × Int × Bool) => (r = .inl () ∧ getN 5 0 0 (b.drop p) = none) ∨ ∃ q, r = .inr q ∧ q = (match getN 5 0 0 (b.drop p) with | some (m, c) => ((m : Int), (p : Int) + (c : Int), true) | none => (0, 0, false))) ((n : Int), (k : Int))) (some (.inr (.inr (0, 0, false)))) := fun h => by
     rw [if_pos h] at hg
     exact wp_out (.inr ⟨_, rfl, by rw [hg]⟩)
    have hgood : ¬ ((0 < k ∧ y.toNat = 0) ∨ 2147483647 < n + y.toNat % 128 * 128 ^ k) → Wp (LpO (fun s : Int × Int => 5 - s.2.toNat) (fun s => ∃ k n : Nat, s = ((n : Int), (k : Int)) ∧ k ≤ 5 ∧ n < 128 ^ k ∧ getN 5 0 0 (b.drop p) = getN (5 - k) k n (b.drop (p + k)))
      (fun r : Unit ⊕ (Int × Int × Bool) => (r = .inl () ∧ getN 5 0 0 (b.drop p) = none) ∨ ∃ q, r = .inr q ∧ q = (match getN 5 0 0 (b.drop p) with | some (m, c) => ((m : Int), (p : Int) + (c : Int), true) | none => (0, 0, false))) ((n : Int), (k : Int))) (some (.inr (.inr (((n + y.toNat % 128 * 128 ^ k : Nat) : Int), iop .add .i64 ((p + k : Nat) : Int) 1, true)))) := fun h => by
     rw [if_neg h] at hg
     refine wp_out (.inr ⟨_, rfl, ?_⟩)
     rw [hg, ir_add1 (by omega)]
     dsimp only
     rw [show ((p + k + 1 : Nat) : Int) = (p : Int) + ((k + 1 : Nat) : Int) by omega]
    refine wp_if (fun h0 => wp_if (fun hk0 => hbad (.inl ⟨by omega, by omega⟩)) (fun hk0 => wp_if (fun hm => hbad (.inr (by omega))) (fun hm => hgood (by omega)))) (fun h0 => wp_if (fun hm => hbad (.inr (by omega))) (fun hm => hgood (by omega)))
  ·rintro r (⟨rfl, h⟩ | ⟨q, rfl, h⟩)
   ·exact wp_some (by rw [h])
   ·exact wp_some h
 ·by_cases h0 : 0 ≤ a
  ·rw [if_pos h0, drop_ge (by omega)]; rfl
  ·rw [if_neg h0]
theorem s_GetNum (b : List UInt8) (a : Int) (hb : b.length ≤ 1000000) : sGetNum b a = some (getNum b a) := by
 refine wp_eq ?_
 unfold sGetNum getNum
 simp only [PN, n_byte]
 by_cases ha : 0 ≤ a
 ·rw [if_pos ha]
  refine wp_loop (fun s => 5 - s.2.toNat) (fun s => ∃ k n : Nat, s = ((n : Int), (k : Int)) ∧ k ≤ 5 ∧ n < 128 ^ k ∧ getN 5 0 0 (b.drop a.toNat) = getN (5 - k) k n (b.drop (a.toNat + k)))
   (fun r => (r = .inl () ∧ getN 5 0 0 (b.drop a.toNat) = none) ∨ ∃ q, r = .inr q ∧ q = (match getN 5 0 0 (b.drop a.toNat) with | some (m, c) => ((m : Int), a + (c : Int), true) | none => (0, 0, false))) ⟨0, 0, rfl, by omega, by decide, rfl⟩ ?_ ?_
  ·rintro ⟨x, y⟩ ⟨k, n, e, hk, hn, hg⟩
   injection e with e1 e2
   subst e1 e2
   dsimp only
   refine wp_if (fun h5 => ?_) (fun h5 => wp_out (.inl ⟨rfl, by rw [hg, show 5 - k = 0 by omega]; rfl⟩))
   refine wp_if (fun hl => absurd ha (by omega)) (fun _ => ?_)
   rw [isub (by omega)]
   refine wp_if (fun hl => wp_out (.inr ⟨_, rfl, by rw [hg, drop_ge (by omega), show 5 - k = (4 - k) + 1 by omega]; rfl⟩)) (fun hl => ?_)
   obtain ⟨y, hy⟩ := get_some (l := b) (i := a.toNat + k) (by omega)
   have hd := drop_at hy
   rw [hd, show 5 - k = (4 - k) + 1 by omega, getN] at hg
   have hy2 := y.toNat_lt
   have hm : y.toNat % 128 < 128 := Nat.mod_lt _ (by decide)
   rw [iadd (a := a) (by omega), show a + (k : Int) = ((a.toNat + k : Nat) : Int) by omega, gt_ok hy, bsome]
   refine wp_ck (tb_pos (by rw [imul (by omega)]; omega)) ?_
   rw [n_rem128', n_shl7 hm (by omega), n_orS hn hm (by omega)]
   refine wp_if (fun h128 => ?_) (fun h128 => ?_)
   ·rw [if_neg (by omega)] at hg
    simp only [bite, bsome, Sum.elim_inl, Sum.elim_inr]
    have hbad : ((0 < k ∧ y.toNat = 0) ∨ 2147483647 < n + y.toNat % 128 * 128 ^ k) → Wp (LpO (fun s : Int × Int => 5 - s.2.toNat) (fun s => ∃ k n : Nat, s = ((n : Int), (k : Int)) ∧ k ≤ 5 ∧ n < 128 ^ k ∧ getN 5 0 0 (b.drop a.toNat) = getN (5 - k) k n (b.drop (a.toNat + k)))
      (fun r : Unit ⊕ (Int × Int × Bool) => (r = .inl () ∧ getN 5 0 0 (b.drop a.toNat) = none) ∨ ∃ q, r = .inr q ∧ q = (match getN 5 0 0 (b.drop a.toNat) with | some (m, c) => ((m : Int), a + (c : Int), true) | none => (0, 0, false))) ((n : Int), (k : Int))) (some (.inr (.inr (0, 0, false)))) := fun h => by
     rw [if_pos h] at hg
     exact wp_out (.inr ⟨_, rfl, by rw [hg]⟩)
    have hgood : ¬ ((0 < k ∧ y.toNat = 0) ∨ 2147483647 < n + y.toNat % 128 * 128 ^ k) → Wp (LpO (fun s : Int × Int => 5 - s.2.toNat) (fun s => ∃ k n : Nat, s = ((n : Int), (k : Int)) ∧ k ≤ 5 ∧ n < 128 ^ k ∧ getN 5 0 0 (b.drop a.toNat) = getN (5 - k) k n (b.drop (a.toNat + k)))
      (fun r : Unit ⊕ (Int × Int × Bool) => (r = .inl () ∧ getN 5 0 0 (b.drop a.toNat) = none) ∨ ∃ q, r = .inr q ∧ q = (match getN 5 0 0 (b.drop a.toNat) with | some (m, c) => ((m : Int), a + (c : Int), true) | none => (0, 0, false))) ((n : Int), (k : Int))) (some (.inr (.inr (((n + y.toNat % 128 * 128 ^ k : Nat) : Int), iop .add .i64 ((a.toNat + k : Nat) : Int) 1, true)))) := fun h => by
     rw [if_neg h] at hg
     refine wp_out (.inr ⟨_, rfl, ?_⟩)
     rw [hg, ir_add1 (by omega)]
     dsimp only
     rw [show ((a.toNat + k + 1 : Nat) : Int) = a + ((k + 1 : Nat) : Int) by omega]
    refine wp_if (fun hk0 => wp_if (fun h0 => hbad (.inl ⟨by omega, by omega⟩)) (fun h0 => wp_if (fun hm => hbad (.inr (by omega))) (fun hm => hgood (by omega)))) (fun hk0 => wp_if (fun hm => hbad (.inr (by omega))) (fun hm => hgood (by omega)))
   ·rw [if_pos (by omega)] at hg
    rw [ir_add1 (by omega)]
    exact wp_back ⟨k + 1, _, rfl, by omega, lt_step hn hm, by rw [hg, show 5 - (k + 1) = 4 - k by omega]; rfl⟩ (by dsimp only; omega)
  ·rintro r (⟨rfl, h⟩ | ⟨q, rfl, h⟩)
   ·exact wp_some (by rw [h])
   ·exact wp_some h
 ·rw [if_neg ha]
  refine wp_loop (fun s => 5 - s.2.toNat) (fun s => s = (0, 0)) (fun r => r = .inr (0, 0, false)) rfl ?_ ?_
  ·rintro _ rfl
   dsimp only
   exact wp_if (fun _ => wp_if (fun _ => wp_out rfl) (fun h => absurd h (by omega))) (fun h => absurd h (by omega))
  ·rintro r rfl
   exact wp_some rfl
/-! What is read is what would be written. -/
theorem getN_put : ∀ (f k n : Nat) (l : List UInt8) (m c : Nat), getN f k n l = some (m, c) → ∃ v, m = n + v * 128 ^ k ∧ l.take (c - k) = putNat v ∧ (0 < k → 0 < v) ∧ m ≤ 2147483647 ∧ k < c ∧ c - k ≤ l.length
 | 0, _, _, _, _, _, h => by cases h
 | _ + 1, _, _, [], _, _, h => by cases h
 | f + 1, k, n, x :: t, m, c, h => by
  have hx := x.toNat_lt
  rw [getN] at h
  split at h
  ·obtain ⟨v, h1, h2, h3, h4, h5, h6⟩ := getN_put f (k + 1) _ t m c h
   have hv := h3 (by omega)
   refine ⟨x.toNat % 128 + v * 128, ?_, ?_, fun _ => by omega, h4, by omega, by simp only [List.length_cons]; omega⟩
   ·rw [h1, Nat.add_mul, Nat.pow_succ, Nat.mul_assoc v 128, Nat.mul_comm 128]; omega
   ·rw [putNat_ge (by omega), show c - k = (c - (k + 1)) + 1 by omega, List.take_succ_cons, h2]
    congr 1
    ·apply UInt8.toNat_inj.1
     simp; omega
    ·congr 1; omega
  ·split at h
   ·cases h
   ·rename_i h1 h2
    injection h with h
    injection h with h3 h4
    subst h3 h4
    refine ⟨x.toNat, by rw [Nat.mod_eq_of_lt (by omega)], ?_, fun hk => by omega, by omega, by omega, by simp only [List.length_cons]; omega⟩
    rw [show k + 1 - k = 1 by omega, putNat_lt (by omega)]
    simp
theorem put_getN : ∀ (f k n v : Nat) (t : List UInt8), 0 < f → v < 128 ^ f → (0 < k → 0 < v) → n + v * 128 ^ k ≤ 2147483647 → getN f k n (putNat v ++ t) = some (n + v * 128 ^ k, k + (putNat v).length)
 | 0, k, n, v, t, hf, hv, hk, hm => by omega
 | f + 1, k, n, v, t, hf, hv, hk, hm => by
  by_cases h : v < 128
  ·rw [putNat_lt h, List.singleton_append, getN]
   have e : (UInt8.ofNat v).toNat = v := by simp; omega
   rw [e, if_neg (by omega), Nat.mod_eq_of_lt h, if_neg (by omega)]
   rfl
  ·rw [putNat_ge (by omega), List.cons_append, getN]
   have e : (UInt8.ofNat (v % 128 + 128)).toNat = v % 128 + 128 := by simp; omega
   rw [e, if_pos (by omega), show (v % 128 + 128) % 128 = v % 128 by omega]
   have hval : n + v % 128 * 128 ^ k + v / 128 * 128 ^ (k + 1) = n + v * 128 ^ k := by
    rw [Nat.pow_succ, Nat.add_assoc, Nat.mul_comm (128 ^ k) 128, ← Nat.mul_assoc, ← Nat.add_mul]
    congr 2; omega
   have hf2 : 0 < f := by
    cases f with
    | zero => rw [Nat.pow_succ] at hv; omega
    | succ f => omega
   rw [put_getN f (k + 1) _ (v / 128) t hf2 (by rw [Nat.pow_succ] at hv; omega) (fun _ => by omega) (by rw [hval]; exact hm), hval]
   simp only [List.length_cons]
   congr 2; omega
end Go.Ar
end
section
namespace Go.Ar
open Go.Proofs
set_option linter.unusedVariables false
set_option linter.unusedSimpArgs false
set_option maxRecDepth 20000
/-! ### Disks -/
theorem wp_cond {α : Type} {P : α → Prop} {b : Bool} {x y : Option α} (h1 : b = true → Wp P x) (h2 : b = false → Wp P y) : Wp P (cond b x y) := by
 cases b with
 | true => exact h1 rfl
 | false => exact h2 rfl
def SecOk (l : List (List UInt8)) : Prop := ∀ (i : Nat) (s : List UInt8), l[i]? = some s → s.length ≤ 90
def PendOk (n : Nat) (l : List PutD) : Prop := ∀ (i : Nat) (w : PutD), l[i]? = some w → (0 ≤ w.pos ∧ w.pos ≤ (n : Int) - 1) ∧ w.data.length ≤ 90
structure DiskOk (d : DiskD) : Prop where
 n1 : d.sectors.length ≤ 120
 p1 : d.pend.length ≤ 400
 sec : SecOk d.sectors
 pnd : PendOk d.sectors.length d.pend
theorem i_ShortL {l : List (List UInt8)} (hl : l.length ≤ 120) : gslices_ContainsFunc_string_iDiskOk_1 l = some (tb (¬ SecOk l)) := by
 unfold gslices_ContainsFunc_string_iDiskOk_1 gslices_IndexFunc_string_iDiskOk_1 iDiskOk_1
 simp only [PN, i_short]
 rw [bnd_assoc]
 refine bnd_first (fun i : Nat => (i : Int)) l (fun i y => y.length ≤ 90) (fun i _ => .inr (i : Int)) (.inl ()) rfl (fun i y hy _ h => ?_) (fun i y hy _ h => ?_) (fun h => ?_) (fun h => ?_) (fun k y hy hn hj => ?_)
 ·have := len_lt hy
  rw [if_pos (by omega), gt_ok hy, bsome, if_neg (by omega), ir_add1 (by omega)]
 ·have := len_lt hy
  rw [if_pos (by omega), gt_ok hy, bsome, if_pos (by omega)]
 ·rw [if_neg (by omega)]
 ·exact tb_some (iff_of_false (by omega) fun h2 => h2 h)
 ·exact tb_some (iff_of_true (by omega) (fun hh => hn (hh k y hy)))
theorem i_PendL {l : List PutD} {sec : List (List UInt8)} (q : List PutD) (hl : l.length ≤ 400) (hs : sec.length ≤ 120) : gslices_ContainsFunc_Put_iDiskOk_2 l sec q = some (tb (¬ PendOk sec.length l)) := by
 unfold gslices_ContainsFunc_Put_iDiskOk_2 gslices_IndexFunc_Put_iDiskOk_2 iDiskOk_2
 simp only [PN, i_short, i_within]
 rw [bnd_assoc]
 refine bnd_first (fun i : Nat => (i : Int)) l (fun i w => (0 ≤ w.pos ∧ w.pos ≤ (sec.length : Int) - 1) ∧ w.data.length ≤ 90) (fun i _ => .inr (i : Int)) (.inl ()) rfl (fun i y hy _ h => ?_) (fun i y hy _ h => ?_) (fun h => ?_) (fun h => ?_) (fun k y hy hn hj => ?_)
 ·have := len_lt hy
  rw [if_pos (by omega), gt_ok hy, bsome, isub (by omega), if_pos h.1, bsome, cond_tb, if_neg (by omega), ir_add1 (by omega)]
 ·have := len_lt hy
  rw [if_pos (by omega), gt_ok hy, bsome, isub (by omega)]
  by_cases h1 : 0 ≤ y.pos ∧ y.pos ≤ (sec.length : Int) - 1
  ·rw [if_pos h1, bsome, cond_tb, if_pos (by omega)]
  ·rw [if_neg h1, bsome]; rfl
 ·rw [if_neg (by omega)]
 ·exact tb_some (iff_of_false (by omega) fun h2 => h2 h)
 ·exact tb_some (iff_of_true (by omega) (fun hh => hn (hh k y hy)))
theorem i_DiskOk (d : DiskD) : iDiskOk d = some (tb (DiskOk d)) := by
 refine wp_eq ?_
 unfold iDiskOk
 simp only [PN]
 refine wp_if (fun h => wp_no fun hd => by have := hd.n1; omega) (fun h1 => wp_if (fun h => wp_no fun hd => by have := hd.p1; omega) (fun h2 => ?_))
 rw [i_ShortL (by omega), bsome, i_PendL _ (by omega) (by omega)]
 simp only [PN]
 refine wp_if (fun h => wp_no fun hd => h hd.sec) (fun h3 => wp_some (tb_congr ?_))
 exact ⟨fun h => ⟨by omega, by omega, Classical.not_not.1 h3, Classical.not_not.1 h⟩, fun hd hn => hn hd.pnd⟩
theorem s_PutsL (n : Nat) (hn : n ≤ 1000) (l : List PutD) (hl : l.length ≤ 1000000) : sl3PutsOk l (n : Int) = some (tb (PendOk n l)) := by
 unfold sl3PutsOk
 simp only [s_l1In, PN]
 refine bnd_first (fun i : Nat => (i : Int)) l (fun i w => (0 ≤ w.pos ∧ w.pos ≤ (n : Int) - 1) ∧ w.data.length ≤ 90) (fun _ _ => .inr false) (.inl ()) rfl (fun i y hy _ h => ?_) (fun i y hy _ h => ?_) (fun h => ?_) (fun h => ?_) (fun k y hy hn hj => ?_)
 ·have := len_lt hy
  rw [if_pos (by omega), gt_ok hy, bsome, isub (by omega), if_pos h.1, if_neg (by omega), ir_add1 (by omega)]
 ·have := len_lt hy
  rw [if_pos (by omega), gt_ok hy, bsome, isub (by omega)]
  by_cases h1 : 0 ≤ y.pos ∧ y.pos ≤ (n : Int) - 1
  ·rw [if_pos h1, if_pos (by omega)]
  ·rw [if_neg h1]
 ·rw [if_neg (by omega)]
 ·exact some_tb (iff_of_true rfl h)
 ·exact some_tb (iff_of_false (by simp) fun h => hn (h k y hy))
theorem s_DiskOk (d : DiskD) : sDiskOk d = some (tb (DiskOk d)) := by
 refine wp_eq ?_
 unfold sDiskOk
 simp only [PN]
 refine wp_if (fun h => wp_no fun hd => by have := hd.n1; omega) (fun h1 => wp_if (fun h => wp_no fun hd => by have := hd.p1; omega) (fun h2 => ?_))
 refine wp_loop (fun s => d.sectors.length - s.toNat) (fun s => ∃ i : Nat, s = (i : Int) ∧ i ≤ d.sectors.length ∧ ∀ (j : Nat) (s : List UInt8), j < i → d.sectors[j]? = some s → s.length ≤ 90)
  (fun r => (r = .inl () ∧ SecOk d.sectors) ∨ (r = .inr false ∧ ¬ SecOk d.sectors)) ⟨0, rfl, by omega, fun k s hk => by omega⟩ ?_ ?_
 ·rintro j ⟨i, rfl, h3, h4⟩
  refine wp_if (fun hi => ?_) (fun hi => wp_out (.inl ⟨rfl, fun k s hs => h4 k s (by have := len_lt hs; omega) hs⟩))
  obtain ⟨s, hs⟩ := get_some (l := d.sectors) (i := i) (by omega)
  rw [gt_ok hs, bsome]
  refine wp_if (fun hl => wp_out (.inr ⟨rfl, fun h => by have := h i s hs; omega⟩)) (fun hl => ?_)
  refine wp_back ⟨i + 1, ir_add1 (by omega), by omega, fun k s' hk hs' => ?_⟩ (by rw [ir_add1 (by omega)]; omega)
  by_cases e : k = i
  ·subst e
   rw [hs] at hs'; cases hs'
   omega
  ·exact h4 k s' (by omega) hs'
 ·rintro r (⟨rfl, h⟩ | ⟨rfl, h⟩)
  ·rw [Sum.elim_inl, s_PutsL _ (by omega) _ (by omega), bsome]
   exact wp_some (tb_congr ⟨fun hp => ⟨by omega, by omega, h, hp⟩, fun hd => hd.pnd⟩)
  ·exact wp_no fun hd => h hd.sec
def Homed (d : DiskD) (n : Int) : Prop := DiskOk d ∧ (1 ≤ n ∧ n ≤ 48) ∧ (d.sectors.length : Int) = 2 * n + 1
theorem i_homed (d : DiskD) (n : Int) : ihomed d n = some (tb (Homed d n)) := by
 refine wp_eq ?_
 unfold ihomed
 simp only [i_DiskOk, i_within, PN]
 refine wp_if (fun h1 => wp_if (fun h2 => ?_) (fun h => wp_no fun hd => h hd.2.1)) (fun h => wp_no fun hd => h hd.1)
 rw [imul (by omega), iadd (by omega)]
 exact wp_some (tb_congr ⟨fun h => ⟨h1, h2, h⟩, fun h => h.2.2⟩)
theorem s_l4Ok (d : DiskD) (n : Int) : sl4Ok d n = some (tb (Homed d n)) := by
 refine wp_eq ?_
 unfold sl4Ok
 simp only [s_DiskOk, s_l1In, PN]
 refine wp_if (fun h1 => wp_if (fun h2 => ?_) (fun h => wp_no fun hd => h hd.2.1)) (fun h => wp_no fun hd => h hd.1)
 rw [imul (by omega), iadd (by omega)]
 exact wp_some (tb_congr ⟨fun h => ⟨h1, h2, h⟩, fun h => h.2.2⟩)
theorem clone_S {l : List (List UInt8)} (h : l.length ≤ 4000000) : gslices_Clone_string l = some l := by
 unfold gslices_Clone_string nq
 split
 ·rename_i e
  subst e
  simp only [cond_true, cond_false]
  rw [ck_in (room (by simp only [PN]; simp) (by simp only [PN]; simp)), if_pos rfl]
 ·simp only [cond_false]
  rw [ck_in (room (by simp only [PN]; omega) (by simp only [PN]; omega))]
theorem clone_P {l : List PutD} (h : l.length ≤ 4000000) : gslices_Clone_Put l = some l := by
 unfold gslices_Clone_Put nq
 split
 ·rename_i e
  subst e
  simp only [cond_true, cond_false]
  rw [ck_in (room (by simp only [PN]; simp) (by simp only [PN]; simp)), if_pos rfl]
 ·simp only [cond_false]
  rw [ck_in (room (by simp only [PN]; omega) (by simp only [PN]; omega))]
theorem s_l1Copy {l : List (List UInt8)} (h : l.length ≤ 4000000) : sl1Copy l = some l := by
 unfold sl1Copy
 rw [ck_in (room (by simp only [PN]; omega) (by simp only [PN]; omega))]
theorem i_Fall0 {d : DiskD} (h : DiskOk d) : iFall d [] = some ⟨d.sectors, []⟩ := by
 have h1 := h.n1
 have h2 := h.p1
 refine wp_eq ?_
 unfold iFall isettle_iFall_1 icloneDisk iFall_1
 rw [clone_S (by omega), bsome, clone_P (by omega), bsome, bsome, i_DiskOk]
 simp only [PN]
 rw [if_pos h]
 refine wp_bnd (fun r => r = ⟨d.sectors, []⟩) ?_ (fun r hr => wp_some hr)
 refine wp_loop (fun s => d.pend.length - s.1.toNat) (fun s => ∃ i : Nat, s = ((i : Int), d.sectors) ∧ i ≤ d.pend.length) (fun r => r = d.sectors) ⟨0, rfl, by omega⟩ ?_ ?_
 ·rintro _ ⟨i, rfl, hi⟩
  dsimp only
  refine wp_if (fun hlt => ?_) (fun _ => wp_out rfl)
  obtain ⟨w, hw⟩ := get_some (l := d.pend) (i := i) (by omega)
  rw [gt_ok hw, bsome, if_neg (by simp only [List.length_nil]; omega), bsome]
  exact wp_back ⟨i + 1, by rw [ir_add1 (by omega)], by omega⟩ (by dsimp only; rw [ir_add1 (by omega)]; omega)
 ·rintro r rfl
  exact wp_some rfl
theorem s_Fall0 {d : DiskD} (h : DiskOk d) : sFall d [] = some ⟨d.sectors, []⟩ := by
 have h1 := h.n1
 have h2 := h.p1
 refine wp_eq ?_
 unfold sFall sl3Copy
 rw [s_l1Copy (by omega)]
 simp only [s_DiskOk, PN]
 rw [ck_in (room (by omega) (by omega)), bsome, if_pos h]
 refine wp_loop (fun s => 0) (fun s => s = (0, d.sectors)) (fun r => r = d.sectors) rfl ?_ ?_
 ·rintro _ rfl
  dsimp only
  exact wp_if (fun _ => wp_if (fun hh => absurd hh (by simp)) (fun _ => wp_out rfl)) (fun _ => wp_out rfl)
 ·rintro r rfl
  exact wp_some rfl
theorem i_Sector0 {d : DiskD} (hp : d.pend = []) (a : Int) : iSectorRead d a = some (@dite _ (DiskOk d ∧ 0 ≤ a ∧ a ≤ (d.sectors.length : Int) - 1) (Classical.propDecidable _) (fun _ => (d.sectors.getD a.toNat [], true)) (fun _ => ([], false))) := by
 refine wp_eq ?_
 unfold iSectorRead
 simp only [i_DiskOk, i_within, PN]
 refine wp_if (fun h1 => ?_) (fun h1 => wp_some (by rw [dif_neg (fun h => h1 h.1)]))
 have := h1.n1
 rw [isub (by omega)]
 refine wp_if (fun h2 => ?_) (fun h2 => wp_some (by rw [dif_neg (fun h => h2 h.2)]))
 obtain ⟨s, hs⟩ := get_some (l := d.sectors) (i := a.toNat) (by omega)
 rw [gtI h2.1 hs, bsome, dif_pos ⟨h1, h2⟩, List.getD_eq_getElem?_getD, hs]
 rw [hp]
 refine wp_loop (fun s => 0) (fun x => x = (s, 0)) (fun r => r = s) rfl ?_ ?_
 ·rintro _ rfl
  dsimp only
  exact wp_if (fun hh => absurd hh (by simp)) (fun _ => wp_out rfl)
 ·rintro r rfl
  exact wp_some rfl
theorem s_Sector0 {d : DiskD} (hp : d.pend = []) (a : Int) : sSectorRead d a = some (@dite _ (DiskOk d ∧ 0 ≤ a ∧ a ≤ (d.sectors.length : Int) - 1) (Classical.propDecidable _) (fun _ => (d.sectors.getD a.toNat [], true)) (fun _ => ([], false))) := by
 refine wp_eq ?_
 unfold sSectorRead
 simp only [s_DiskOk, s_l1In, PN]
 refine wp_if (fun h1 => ?_) (fun h1 => wp_some (by rw [dif_neg (fun h => h1 h.1)]))
 have := h1.n1
 rw [isub (a := (d.sectors.length : Int)) (by omega)]
 refine wp_if (fun h2 => ?_) (fun h2 => wp_some (by rw [dif_neg (fun h => h2 h.2)]))
 obtain ⟨s, hs⟩ := get_some (l := d.sectors) (i := a.toNat) (by omega)
 rw [dif_pos ⟨h1, h2⟩, List.getD_eq_getElem?_getD, hs]
 rw [hp, isub (by simp)]
 refine wp_loop (fun s => 0) (fun x => x = -1) (fun r => r = .inl ()) (by simp) ?_ ?_
 ·rintro _ rfl
  exact wp_if (fun hh => absurd hh (by omega)) (fun _ => wp_out rfl)
 ·rintro r rfl
  rw [Sum.elim_inl, gtI h2.1 hs, bsome]
  exact wp_some rfl
noncomputable def homeOf (d : DiskD) (n : Int) : List (List UInt8) := open Classical in if Homed d n then (d.sectors.drop (n.toNat + 1)) else []
theorem drop_take_snoc {α : Type} {l : List α} {m k : Nat} {x : α} (h : l[m + k]? = some x) : (l.drop m).take (k + 1) = (l.drop m).take k ++ [x] := by
 rw [List.take_add_one, List.getElem?_drop, h]; rfl
theorem i_HomeOf {d : DiskD} (hp : d.pend = []) (n : Int) : iHomeOf d n = some (homeOf d n) := by
 refine wp_eq ?_
 unfold iHomeOf homeOf gslices_Clip_string
 simp only [i_homed, i_Sector0 hp, PN]
 refine wp_if (fun h => ?_) (fun h => wp_some (by rw [if_neg h]))
 rw [if_pos h]
 obtain ⟨h1, h2, h3⟩ := h
 obtain ⟨m, rfl⟩ : ∃ m : Nat, n = (m : Int) := ⟨n.toNat, by omega⟩
 rw [Int.toNat_natCast]
 refine wp_loop (fun s => m - s.2.toNat) (fun s => ∃ i : Nat, s = ((d.sectors.drop (m + 1)).take i, (i : Int)) ∧ i ≤ m) (fun r => r = d.sectors.drop (m + 1)) ⟨0, rfl, by omega⟩ ?_ ?_
 ·rintro _ ⟨i, rfl, hi⟩
  dsimp only
  refine wp_if (fun hlt => ?_) (fun hlt => wp_out (by rw [List.take_of_length_le (by simp; omega)]))
  obtain ⟨s, hs⟩ := get_some (l := d.sectors) (i := m + 1 + i) (by omega)
  rw [iadd (a := (m : Int)) (by omega), iadd (by omega), dif_pos ⟨h1, by omega⟩]
  dsimp only
  refine wp_ck (room (by omega) (by simp; omega)) ?_
  rw [show ((m : Int) + 1 + (i : Int)).toNat = m + 1 + i by omega, List.getD_eq_getElem?_getD, hs, Option.getD_some, ← drop_take_snoc hs, ir_add1 (by omega)]
  exact wp_back ⟨i + 1, rfl, by omega⟩ (by dsimp only; omega)
 ·rintro r rfl
  rw [ck_in (ins (by omega)), ck_in (ins (by omega)), bsome, sb_eq]
  refine wp_some ?_
  rw [show (0 : Int).toNat = 0 from rfl, List.drop_zero, List.take_of_length_le (by simp)]
theorem s_HomeOf {d : DiskD} (hp : d.pend = []) (n : Int) : sHomeOf d n = some (homeOf d n) := by
 refine wp_eq ?_
 unfold sHomeOf homeOf
 simp only [s_l4Ok, s_Sector0 hp, PN]
 refine wp_if (fun h => ?_) (fun h => wp_some (by rw [if_neg h]))
 rw [if_pos h]
 obtain ⟨h1, h2, h3⟩ := h
 obtain ⟨m, rfl⟩ : ∃ m : Nat, n = (m : Int) := ⟨n.toNat, by omega⟩
 rw [Int.toNat_natCast]
 refine wp_loop (fun s => m - s.2.toNat) (fun s => ∃ i : Nat, s = ((d.sectors.drop (m + 1)).take i, (i : Int)) ∧ i ≤ m) (fun r => r = d.sectors.drop (m + 1)) ⟨0, rfl, by omega⟩ ?_ ?_
 ·rintro _ ⟨i, rfl, hi⟩
  dsimp only
  refine wp_if (fun hlt => ?_) (fun hlt => wp_out (by rw [List.take_of_length_le (by simp; omega)]))
  obtain ⟨s, hs⟩ := get_some (l := d.sectors) (i := m + 1 + i) (by omega)
  rw [iadd (a := (m : Int)) (by omega), iadd (by omega), dif_pos ⟨h1, by omega⟩]
  dsimp only
  refine wp_ck (room (by omega) (by simp; omega)) ?_
  rw [show ((m : Int) + 1 + (i : Int)).toNat = m + 1 + i by omega, List.getD_eq_getElem?_getD, hs, Option.getD_some, ← drop_take_snoc hs, ir_add1 (by omega)]
  exact wp_back ⟨i + 1, rfl, by omega⟩ (by dsimp only; omega)
 ·rintro r rfl
  exact wp_some rfl
end Go.Ar
end
section
namespace Go.Ar
open Go.Proofs
set_option linter.unusedVariables false
set_option linter.unusedSimpArgs false
set_option maxRecDepth 20000
/-! ### Nodes read -/
theorem getNum_of {b : List UInt8} {p m c : Nat} (h : getN 5 0 0 (b.drop p) = some (m, c)) : getNum b (p : Int) = ((m : Int), ((p + c : Nat) : Int), true) := by
 unfold getNum
 rw [if_pos (by omega), Int.toNat_natCast, h]
 dsimp only
 congr 2
theorem getNum_no {b : List UInt8} {p : Nat} (h : getN 5 0 0 (b.drop p) = none) : getNum b (p : Int) = (0, 0, false) := by
 unfold getNum
 rw [if_pos (by omega), Int.toNat_natCast, h]
theorem putNat_pos (n : Nat) : 0 < (putNat n).length := by
 rw [putNat]; split <;> simp
def Nums (l : List Int) : Prop := ∀ x ∈ l, 0 ≤ x ∧ x ≤ 2147483647
theorem putNum_in {x : Int} (h : 0 ≤ x ∧ x ≤ 2147483647) : putNum x = putNat x.toNat := by unfold putNum; rw [if_pos h]
theorem getN_putNum {x : Int} (h : 0 ≤ x ∧ x ≤ 2147483647) (t : List UInt8) : getN 5 0 0 (putNum x ++ t) = some (x.toNat, (putNum x).length) := by
 rw [putNum_in h, put_getN 5 0 0 x.toNat t (by omega) (by omega) (by omega) (by omega)]
 simp
theorem getN_some {l : List UInt8} {m c : Nat} (h : getN 5 0 0 l = some (m, c)) : l = putNum (m : Int) ++ l.drop c ∧ 0 < c ∧ c ≤ l.length ∧ m ≤ 2147483647 := by
 obtain ⟨v, h1, h2, _, h4, h5, h6⟩ := getN_put 5 0 0 l m c h
 have e : v = m := by simp at h1; omega
 subst e
 refine ⟨?_, h5, by simpa using h6, h4⟩
 rw [putNum_in (by omega), Int.toNat_natCast, ← h2, Nat.sub_zero, List.take_append_drop]
theorem flat_nil {l : List Int} (hl : Nums l) (h : l.flatMap putNum = []) : l = [] := by
 cases l with
 | nil => rfl
 | cons x l =>
  rw [List.flatMap_cons, putNum_in (hl x (by simp))] at h
  have := putNat_pos x.toNat
  have h2 := congrArg List.length h
  rw [List.length_append] at h2
  simp only [List.length_nil] at h2
  omega
theorem nums_A {b : List UInt8} (hb : b.length ≤ 1000000) (hb1 : 1 ≤ b.length) {N : List Int} (hN : Nums N) (h : b.drop 1 = N.flatMap putNum) (fail : NodeD × Bool) :
  Wp (fun r => r = .inl N) (lp (σ := List Int × Int) (ρ := (List Int) ⊕ (NodeD × Bool)) (fun s => @ite _ (s.2 < (b.length : Int)) (Classical.propDecidable _) (cond (getNum b s.2).2.2
   (ck (Room ((s.1.length : Int) + 1) 8) <| some (.inl (s.1 ++ [(getNum b s.2).1], (getNum b s.2).2.1))) (some (.inr (.inr fail)))) (some (.inr (.inl s.1)))) ([], 1)) := by
 refine wp_lp (fun s => b.length - s.2.toNat) (fun s => ∃ i p : Nat, s = (N.take i, (p : Int)) ∧ i ≤ N.length ∧ i < p ∧ p ≤ b.length ∧ b.drop p = (N.drop i).flatMap putNum) ⟨0, 1, rfl, by omega, by omega, hb1, h⟩ ?_
 rintro ⟨a, q⟩ ⟨i, p, e, h1, h2, h3, h4⟩
 injection e with e1 e2
 subst e1 e2
 dsimp only
 refine wp_if (fun hp => ?_) (fun hp => wp_out ?_)
 ·have hi : i < N.length := by
   apply Classical.byContradiction
   intro hn
   rw [drop_ge (l := N) (by omega)] at h4
   have := congrArg List.length h4
   simp at this; omega
  obtain ⟨x, hx⟩ := get_some hi
  have hxr := hN x (List.mem_of_getElem? hx)
  have hd := drop_at hx
  rw [hd, List.flatMap_cons] at h4
  have hg := getN_putNum hxr ((N.drop (i + 1)).flatMap putNum)
  rw [← h4] at hg
  have hlen := congrArg List.length h4
  rw [List.length_append, List.length_drop] at hlen
  have hpos := putNat_pos x.toNat
  rw [← putNum_in hxr] at hpos
  rw [getNum_of hg]
  simp only [cond_true]
  refine wp_ck (room (by omega) (by simp; omega)) (wp_back ⟨i + 1, p + (putNum x).length, ?_, by omega, by omega, by omega, ?_⟩ (by dsimp only; omega))
  ·rw [take_snoc' hx, Int.toNat_of_nonneg hxr.1]
  ·rw [← List.drop_drop, h4, List.drop_left]
 ·rw [drop_ge (l := b) (by omega)] at h4
  have := flat_nil (fun x hx => hN x (List.mem_of_mem_drop hx)) h4.symm
  have h5 := congrArg List.length this
  simp at h5
  rw [List.take_of_length_le (by omega)]
theorem nums_B {b : List UInt8} (hb : b.length ≤ 1000000) (hb1 : 1 ≤ b.length) (fail : NodeD × Bool) :
  Wp (fun r => (∃ N, r = .inl N ∧ Nums N ∧ b.drop 1 = N.flatMap putNum) ∨ r = .inr fail) (lp (σ := List Int × Int) (ρ := (List Int) ⊕ (NodeD × Bool)) (fun s => @ite _ (s.2 < (b.length : Int)) (Classical.propDecidable _) (cond (getNum b s.2).2.2
   (ck (Room ((s.1.length : Int) + 1) 8) <| some (.inl (s.1 ++ [(getNum b s.2).1], (getNum b s.2).2.1))) (some (.inr (.inr fail)))) (some (.inr (.inl s.1)))) ([], 1)) := by
 refine wp_lp (fun s => b.length - s.2.toNat) (fun s => ∃ (N : List Int) (p : Nat), s = (N, (p : Int)) ∧ N.length < p ∧ p ≤ b.length ∧ Nums N ∧ b.drop 1 = N.flatMap putNum ++ b.drop p) ⟨[], 1, rfl, by simp, hb1, (fun x hx => by cases hx), by simp⟩ ?_
 rintro ⟨a, q⟩ ⟨N, p, e, h2, h3, h4, h5⟩
 injection e with e1 e2
 subst e1 e2
 dsimp only
 refine wp_if (fun hp => ?_) (fun hp => wp_out (.inl ⟨_, rfl, h4, ?_⟩))
 ·cases hg : getN 5 0 0 (b.drop p) with
  | none =>
   rw [getNum_no hg]
   exact wp_out (.inr rfl)
  | some mc =>
   obtain ⟨m, c⟩ := mc
   obtain ⟨k1, k2, k3, k4⟩ := getN_some hg
   rw [List.length_drop] at k3
   rw [getNum_of hg]
   simp only [cond_true]
   refine wp_ck (room (by omega) (by omega)) (wp_back ⟨_, p + c, rfl, by simp; omega, by omega, ?_, ?_⟩ (by dsimp only; omega))
   ·intro x hx
    rcases List.mem_append.1 hx with hx | hx
    ·exact h4 x hx
    ·obtain rfl := List.mem_singleton.1 hx
     omega
   ·rw [List.flatMap_append, List.flatMap_singleton, List.append_assoc, ← List.drop_drop, ← k1]
    exact h5
 ·rw [h5, drop_ge (by omega), List.append_nil]
theorem m_w8 (m : Nat) : i2b (wrp .u8 (m : Int)) = UInt8.ofNat m := by
 rw [wrp_eq, i2b_eq]
 have e : (IntKind.u8.wrap (m : Int)).toNat = m % 256 := by
  simp only [IntKind.wrap, IntKind.bits, IntKind.signed]
  simp; omega
 rw [e]
 apply UInt8.toNat_inj.1
 simp
theorem kindB_nat (y : UInt8) : kindB ((y.toNat : Nat) : Int) = y := by
 unfold kindB
 rw [m_w8]; simp
theorem NodeOk.kind {n : NodeD} (h : NodeOk n) : 0 ≤ n.kind ∧ n.kind ≤ 3 := by
 rcases h with h | h
 ·omega
 ·omega
theorem kindB_to {n : NodeD} (h : NodeOk n) : (((kindB n.kind).toNat : Nat) : Int) = n.kind := by
 obtain ⟨h1, h2⟩ := h.kind
 unfold kindB
 rw [show n.kind = ((n.kind.toNat : Nat) : Int) by omega, m_w8]
 simp; omega
def nodeZ : NodeD := ⟨0, 0, 0, 0, []⟩
open Classical in
noncomputable def nodeOf (s : List UInt8) : NodeD × Bool := if h : ∃ n, NodeOk n ∧ nodeText n = s then (Classical.choose h, true) else (nodeZ, false)
theorem nodeText_ok {n : NodeD} (h : NodeOk n) : nodeText n = if n.kind = 0 then [kindB n.kind] else [kindB n.kind] ++ putNum n.gen ++ putNum n.time ++ putNum n.size ++ n.blocks.flatMap putNum := by unfold nodeText; rw [if_pos h]
theorem nodeText_used {n : NodeD} (h : NodeOk n) (hk : ¬ n.kind = 0) : nodeText n = kindB n.kind :: ([n.gen, n.time, n.size] ++ n.blocks).flatMap putNum := by
 rw [nodeText_ok h, if_neg hk]; simp
theorem NodeOk.nums {n : NodeD} (h : NodeOk n) : Nums ([n.gen, n.time, n.size] ++ n.blocks) := by
 have hb := h.blk
 intro x hx
 simp only [List.mem_append, List.mem_cons, List.not_mem_nil, or_false] at hx
 rcases hx with (rfl | rfl | rfl) | hx
 ·rcases h with h | h <;> omega
 ·rcases h with h | h <;> omega
 ·rcases h with h | h <;> omega
 ·obtain ⟨i, hi⟩ := List.mem_iff_getElem?.1 hx
  have := (hb i x hi).1
  omega
theorem NodeOk.free {n : NodeD} (h : NodeOk n) (hk : n.kind = 0) : n = nodeZ := by
 rcases h with h | h
 ·obtain ⟨kind, gen, time, size, blocks⟩ := n
  obtain ⟨h1, h2, h3, h4, h5⟩ := h
  dsimp only at *
  have : blocks = [] := List.eq_nil_of_length_eq_zero (by omega)
  subst h1 h2 h3 h4 this
  rfl
 ·exact absurd hk h.1
theorem i_NodeOf (s : List UInt8) (hs : s.length ≤ 1000000) : iNodeOf s = some (nodeOf s) := by
 refine wp_eq ?_
 unfold iNodeOf
 simp only [i_GetNum s _ hs, i_NodeText, PN, n_byte]
 by_cases h : ∃ n, NodeOk n ∧ nodeText n = s
 ·unfold nodeOf
  rw [dif_pos h]
  obtain ⟨hn, ht⟩ := Classical.choose_spec h
  generalize Classical.choose h = n at hn ht ⊢
  have hw : ∀ y : UInt8, s[0]? = some y → ((y.toNat : Nat) : Int) = n.kind := by
   intro y hy
   by_cases hk : n.kind = 0
   ·rw [← ht, nodeText_ok hn, if_pos hk] at hy
    cases hy
    exact kindB_to hn
   ·rw [← ht, nodeText_used hn hk] at hy
    cases hy
    exact kindB_to hn
  have hlen : 1 ≤ s.length := by
   by_cases hk : n.kind = 0
   ·rw [← ht, nodeText_ok hn, if_pos hk]; simp
   ·rw [← ht, nodeText_used hn hk]; simp
  refine wp_if (fun h0 => by rw [h0] at hlen; simp at hlen) (fun h0 => ?_)
  refine wp_ck (room (by omega) (by omega)) ?_
  obtain ⟨y, hy⟩ := get_some (l := s) (i := 0) (by omega)
  have hyk := hw y hy
  by_cases hk : n.kind = 0
  ·refine wp_bnd _ (nums_A hs hlen (N := []) (fun x hx => by cases hx) (by rw [← ht, nodeText_ok hn, if_pos hk]; rfl) _) ?_
   rintro r rfl
   rw [Sum.elim_inl, gt0 hy, bsome]
   rw [if_neg (by simp), bsome]
   dsimp only
   rw [hyk, hn.free hk]
   rw [hn.free hk] at ht
   rw [if_neg (fun hh => hh ht)]
   exact wp_some rfl
  ·have hnt := nodeText_used hn hk
   refine wp_bnd _ (nums_A hs hlen hn.nums (by rw [← ht, hnt]; rfl) _) ?_
   rintro r rfl
   rw [Sum.elim_inl, gt0 hy, bsome]
   have hl3 := hn.len
   rw [if_pos (by simp; omega), gt0 rfl, bsome, show (1 : Int) = ((1 : Nat) : Int) from rfl, gt_ok rfl, bsome, show (2 : Int) = ((2 : Nat) : Int) from rfl, gt_ok rfl, bsome, ck_in (ins (by simp; omega)), bsome]
   dsimp only
   have e3 : sb ([n.gen, n.time, n.size] ++ n.blocks) 3 (([n.gen, n.time, n.size] ++ n.blocks).length : Int) = n.blocks := by
    rw [sb_eq]
    show (n.blocks.take _) = _
    rw [List.take_of_length_le]
    simp
    omega
   rw [e3, hyk, if_neg (fun hh => hh ht)]
   exact wp_some rfl
 ·unfold nodeOf
  rw [dif_neg h]
  refine wp_if (fun h0 => wp_some rfl) (fun h0 => ?_)
  have hlen : 1 ≤ s.length := by
   cases s with
   | nil => exact absurd rfl h0
   | cons x s => simp
  refine wp_ck (room (by omega) (by omega)) ?_
  obtain ⟨y, hy⟩ := get_some (l := s) (i := 0) (by omega)
  refine wp_bnd _ (nums_B hs hlen _) ?_
  rintro r (⟨N, rfl, hN, hd⟩ | rfl)
  ·rw [Sum.elim_inl, gt0 hy, bsome]
   have hNl : N.length ≤ 1000000 := by
    have h1 : ∀ l : List Int, Nums l → l.length ≤ (l.flatMap putNum).length := by
     intro l
     induction l with
     | nil => intro _; simp
     | cons x l ih =>
      intro hl
      have := ih (fun z hz => hl z (by simp [hz]))
      have h2 := putNat_pos x.toNat
      rw [← putNum_in (hl x (by simp))] at h2
      simp only [List.flatMap_cons, List.length_append, List.length_cons]
      omega
    have := h1 N hN
    rw [← hd, List.length_drop] at this
    omega
   have last : ∀ n : NodeD, Wp (fun r => r = (nodeZ, false)) (@ite _ (¬ nodeText n = s) (Classical.propDecidable _) (some (nodeZ, false)) (some (n, true))) := fun n =>
    wp_if (fun _ => wp_some rfl) (fun he => by
     have he := Classical.not_not.1 he
     refine absurd ⟨n, Classical.byContradiction fun hno => ?_, he⟩ h
     unfold nodeText at he
     rw [if_neg hno] at he
     exact h0 he.symm)
   by_cases h3 : 3 ≤ (N.length : Int)
   ·obtain ⟨a, ha⟩ := get_some (l := N) (i := 0) (by omega)
    obtain ⟨b, hb⟩ := get_some (l := N) (i := 1) (by omega)
    obtain ⟨c, hc⟩ := get_some (l := N) (i := 2) (by omega)
    rw [if_pos h3, gt0 ha, bsome, show (1 : Int) = ((1 : Nat) : Int) from rfl, gt_ok hb, bsome, show (2 : Int) = ((2 : Nat) : Int) from rfl, gt_ok hc, bsome, ck_in (ins (by omega)), bsome]
    exact last _
   ·rw [if_neg h3, bsome]
    exact last _
  ·exact wp_some rfl
theorem s_NodeOf (s : List UInt8) (hs : s.length ≤ 1000000) : sNodeOf s = some (nodeOf s) := by
 refine wp_eq ?_
 unfold sNodeOf
 simp only [s_GetNum s _ hs, s_NodeOk, PN, n_byte]
 refine wp_ck (room (by omega) (by omega)) ?_
 by_cases h : ∃ n, NodeOk n ∧ nodeText n = s
 ·unfold nodeOf
  rw [dif_pos h]
  obtain ⟨hn, ht⟩ := Classical.choose_spec h
  generalize Classical.choose h = n at hn ht ⊢
  have hw : ∀ y : UInt8, s[0]? = some y → ((y.toNat : Nat) : Int) = n.kind := by
   intro y hy
   by_cases hk : n.kind = 0
   ·rw [← ht, nodeText_ok hn, if_pos hk] at hy
    cases hy
    exact kindB_to hn
   ·rw [← ht, nodeText_used hn hk] at hy
    cases hy
    exact kindB_to hn
  have hlen : 1 ≤ s.length := by
   by_cases hk : n.kind = 0
   ·rw [← ht, nodeText_ok hn, if_pos hk]; simp
   ·rw [← ht, nodeText_used hn hk]; simp
  refine wp_if (fun h0 => absurd h0 (by omega)) (fun h0 => ?_)
  obtain ⟨y, hy⟩ := get_some (l := s) (i := 0) (by omega)
  have hyk := hw y hy
  rw [gt0 hy, bsome]
  refine wp_if (fun hk => ?_) (fun hk => ?_)
  ·have hk : n.kind = 0 := by omega
   have hl : s.length = 1 := by rw [← ht, nodeText_ok hn, if_pos hk]; rfl
   rw [hyk, hn.free hk, tb_pos (by omega)]
   exact wp_some rfl
  ·have hk : ¬ n.kind = 0 := by omega
   have hnt := nodeText_used hn hk
   refine wp_bnd _ (nums_A hs hlen hn.nums (by rw [← ht, hnt]; rfl) _) ?_
   rintro r rfl
   have hl3 := hn.len
   rw [Sum.elim_inl, if_neg (by simp; omega), gt0 rfl, bsome, show (1 : Int) = ((1 : Nat) : Int) from rfl, gt_ok rfl, bsome, show (2 : Int) = ((2 : Nat) : Int) from rfl, gt_ok rfl, bsome, ck_in (ins (by simp; omega))]
   have e3 : sb ([n.gen, n.time, n.size] ++ n.blocks) 3 (([n.gen, n.time, n.size] ++ n.blocks).length : Int) = n.blocks := by
    rw [sb_eq]
    show (n.blocks.take _) = _
    rw [List.take_of_length_le]
    simp
    omega
   rw [e3, hyk, ck_in (room (by omega) (by omega))]
   exact wp_if (fun _ => wp_some rfl) (fun hh => absurd hn hh)
 ·unfold nodeOf
  rw [dif_neg h]
  refine wp_if (fun h0 => wp_some rfl) (fun h0 => ?_)
  obtain ⟨y, hy⟩ := get_some (l := s) (i := 0) (by omega)
  rw [gt0 hy, bsome]
  refine wp_if (fun hk => ?_) (fun hk => ?_)
  ·have hl : ¬ (s.length : Int) = 1 := fun hl => by
    have hy0 : y.toNat = 0 := by omega
    have hs1 : s = [y] := by
     cases s with
     | nil => simp at hl
     | cons x t =>
      cases hy
      have : t = [] := List.eq_nil_of_length_eq_zero (by simp at hl; omega)
      rw [this]
    refine h ⟨nodeZ, .inl ⟨rfl, rfl, rfl, rfl, rfl⟩, ?_⟩
    rw [nodeText_ok (.inl ⟨rfl, rfl, rfl, rfl, rfl⟩), if_pos (show nodeZ.kind = 0 from rfl), hs1]
    have := kindB_nat y
    rw [hy0] at this
    show [kindB 0] = [y]
    rw [← this]; rfl
   rw [hk, tb_neg hl]
   exact wp_some rfl
  ·refine wp_bnd _ (nums_B hs (by omega) _) ?_
   rintro r (⟨N, rfl, hN, hd⟩ | rfl)
   ·rw [Sum.elim_inl]
    refine wp_if (fun _ => wp_some rfl) (fun h3 => ?_)
    obtain ⟨a, ha⟩ := get_some (l := N) (i := 0) (by omega)
    obtain ⟨b, hb⟩ := get_some (l := N) (i := 1) (by omega)
    obtain ⟨c, hc⟩ := get_some (l := N) (i := 2) (by omega)
    have hNl : N.length ≤ 1000000 := by
     have h1 : ∀ l : List Int, Nums l → l.length ≤ (l.flatMap putNum).length := by
      intro l
      induction l with
      | nil => intro _; simp
      | cons x l ih =>
       intro hl
       have := ih (fun z hz => hl z (by simp [hz]))
       have h2 := putNat_pos x.toNat
       rw [← putNum_in (hl x (by simp))] at h2
       simp only [List.flatMap_cons, List.length_append, List.length_cons]
       omega
     have := h1 N hN
     rw [← hd, List.length_drop] at this
     omega
    have e3 : sb N 3 (N.length : Int) = N.drop 3 := by
     rw [sb_eq]
     show ((N.drop 3).take _) = _
     rw [List.take_of_length_le]
     simp
    rw [gt0 ha, bsome, show (1 : Int) = ((1 : Nat) : Int) from rfl, gt_ok hb, bsome, show (2 : Int) = ((2 : Nat) : Int) from rfl, gt_ok hc, bsome, ck_in (ins (by omega)), e3, ck_in (room (by omega) (by simp; omega))]
    refine wp_if (fun hn => ?_) (fun _ => wp_some rfl)
    refine absurd ⟨_, hn, ?_⟩ h
    have eN : N = [a, b, c] ++ N.drop 3 := by
     have h1 := drop_at ha
     have h2 := drop_at hb
     have h3 := drop_at hc
     rw [List.drop_zero] at h1
     rw [h1, h2, h3]
     rfl
    rw [nodeText_used hn hk]
    dsimp only
    rw [← eN, ← hd, kindB_nat]
    cases s with
    | nil => simp at hy
    | cons x t => cases hy; rfl
   ·exact wp_some rfl
end Go.Ar
end
section
namespace Go.Ar
open Go.Proofs
set_option linter.unusedVariables false
set_option linter.unusedSimpArgs false
set_option maxRecDepth 20000
/-! ### Names and directories -/
theorem inr {i n : Int} (h : 0 ≤ i ∧ i < n) : InR i n := by rw [InR_eq]; exact h
theorem sget_at {s : List UInt8} {i : Nat} {x : UInt8} (h : s[i]? = some x) : sget s (i : Int) = ((x.toNat : Nat) : Int) := by
 rw [sget_eq, Int.toNat_natCast, List.getD_eq_getElem?_getD, h]; rfl
def ChOk (x : UInt8) : Prop := (97 ≤ x.toNat ∧ x.toNat ≤ 122) ∨ (48 ≤ x.toNat ∧ x.toNat ≤ 57)
def NameOk (s : List UInt8) : Prop := (1 ≤ s.length ∧ s.length ≤ 6) ∧ ∀ (i : Nat) (x : UInt8), s[i]? = some x → ChOk x
theorem i_NameOk (s : List UInt8) : iNameOk s = some (tb (NameOk s)) := by
 unfold iNameOk
 simp only [i_within, PN]
 refine if_tb (fun hl => ?_) (fun hl h => hl (by have := h.1; omega))
 refine bnd_first (fun i : Nat => (i : Int)) s (fun i x => ChOk x) (fun _ _ => .inr false) (.inl ()) rfl (fun i x hx _ h => ?_) (fun i x hx _ h => ?_) (fun h => ?_) (fun h => ?_) (fun k x hx hn hj => ?_)
 ·have := len_lt hx
  have hI : InR (i : Int) (s.length : Int) := inr (by omega)
  simp only [ck_in hI, sget_at hx, ir_add1 (show i < 4611686018427387904 by omega)]
  unfold ChOk at h
  (repeat' split) <;> first | rfl | (exfalso; omega)
 ·have := len_lt hx
  have hI : InR (i : Int) (s.length : Int) := inr (by omega)
  simp only [ck_in hI, sget_at hx]
  unfold ChOk at h
  (repeat' split) <;> first | rfl | (exfalso; omega)
 ·rw [if_neg (by omega)]
 ·exact some_tb (iff_of_true rfl ⟨by omega, h⟩)
 ·exact some_tb (iff_of_false (by simp) fun h => hn (h.2 k x hx))
theorem s_NameOk (s : List UInt8) : sNameOk s = some (tb (NameOk s)) := by
 unfold sNameOk
 simp only [s_l1In, PN]
 refine if_tb (fun hl => ?_) (fun hl h => hl (by have := h.1; omega))
 refine bnd_first (fun i : Nat => (i : Int)) s (fun i x => ChOk x) (fun _ _ => .inr false) (.inl ()) rfl (fun i x hx _ h => ?_) (fun i x hx _ h => ?_) (fun h => ?_) (fun h => ?_) (fun k x hx hn hj => ?_)
 ·have := len_lt hx
  have hI : InR (i : Int) (s.length : Int) := inr (by omega)
  simp only [ck_in hI, sget_at hx, ir_add1 (show i < 4611686018427387904 by omega)]
  unfold ChOk at h
  (repeat' split) <;> first | rfl | (exfalso; omega)
 ·have := len_lt hx
  have hI : InR (i : Int) (s.length : Int) := inr (by omega)
  simp only [ck_in hI, sget_at hx]
  unfold ChOk at h
  (repeat' split) <;> first | rfl | (exfalso; omega)
 ·rw [if_neg (by omega)]
 ·exact some_tb (iff_of_true rfl ⟨by omega, h⟩)
 ·exact some_tb (iff_of_false (by simp) fun h => hn (h.2 k x hx))
/-- What a number that was read came from. -/
theorem getNum_yes {b : List UInt8} {p : Nat} {n q : Int} (h : getNum b (p : Int) = (n, q, true)) : ∃ m c : Nat, n = (m : Int) ∧ q = ((p + c : Nat) : Int) ∧ 0 < c ∧ p + c ≤ b.length ∧ m ≤ 2147483647 := by
 cases hg : getN 5 0 0 (b.drop p) with
 | none =>
  rw [getNum_no hg] at h
  injection h with _ h
  injection h with _ h
  cases h
 | some mc =>
  obtain ⟨m, c⟩ := mc
  rw [getNum_of hg] at h
  injection h with h1 h
  injection h with h2 h3
  obtain ⟨_, k2, k3, k4⟩ := getN_some hg
  rw [List.length_drop] at k3
  exact ⟨m, c, h1.symm, h2.symm, k2, by omega, k4⟩
noncomputable def getText (b : List UInt8) (a : Int) : List UInt8 × Int × Bool :=
 if (getNum b a).2.2 = true then (if (b.length : Int) - (getNum b a).2.1 < (getNum b a).1 then ([], 0, false) else (sb b (getNum b a).2.1 ((getNum b a).2.1 + (getNum b a).1), (getNum b a).2.1 + (getNum b a).1, true)) else ([], 0, false)
theorem i_GetText (b : List UInt8) (p : Nat) (hb : b.length ≤ 1000000) : iGetText b (p : Int) = some (getText b (p : Int)) := by
 unfold iGetText getText
 simp only [i_GetNum b _ hb, PN]
 rcases h : getNum b (p : Int) with ⟨n, q, ok⟩
 dsimp only
 cases ok with
 | false => simp only [cond_false]; rfl
 | true =>
  obtain ⟨m, c, rfl, rfl, h1, h2, h3⟩ := getNum_yes h
  simp only [cond_true, if_pos]
  rw [isub (by omega)]
  by_cases hm : (b.length : Int) - ((p + c : Nat) : Int) < (m : Int)
  ·rw [if_pos hm, if_pos hm]
  ·rw [if_neg hm, if_neg hm, iadd (by omega), ck_in (ins (by omega))]
theorem s_GetText (b : List UInt8) (p : Nat) (hb : b.length ≤ 1000000) : sGetText b (p : Int) = some (getText b (p : Int)) := by
 unfold sGetText getText
 simp only [s_GetNum b _ hb, PN]
 rcases h : getNum b (p : Int) with ⟨n, q, ok⟩
 dsimp only
 cases ok with
 | false => simp only [cond_false]; rfl
 | true =>
  obtain ⟨m, c, rfl, rfl, h1, h2, h3⟩ := getNum_yes h
  simp only [cond_true, if_pos]
  rw [isub (by omega)]
  by_cases hm : (b.length : Int) - ((p + c : Nat) : Int) < (m : Int)
  ·rw [if_pos hm, if_pos hm]
  ·rw [if_neg hm, if_neg hm, iadd (by omega), ck_in (ins (by omega))]
theorem getText_yes {b : List UInt8} {p : Nat} {t : List UInt8} {q : Int} (h : getText b (p : Int) = (t, q, true)) : ∃ k : Nat, q = (k : Int) ∧ p < k ∧ k ≤ b.length ∧ t.length ≤ b.length := by
 unfold getText at h
 rcases hg : getNum b (p : Int) with ⟨n, q', ok⟩
 rw [hg] at h
 dsimp only at h
 cases ok with
 | false => simp at h
 | true =>
  obtain ⟨m, c, rfl, rfl, h1, h2, h3⟩ := getNum_yes hg
  rw [if_pos rfl] at h
  split at h
  ·injection h with _ h; injection h with _ h; cases h
  ·injection h with e1 h
   injection h with e2 _
   refine ⟨p + c + m, by omega, by omega, by omega, ?_⟩
   rw [← e1, sb_eq]
   simp; omega
noncomputable def entText (e : EntryD) : List UInt8 := putText e.name ++ putNum e.node
noncomputable def dirText (l : List EntryD) : List UInt8 := l.flatMap entText
def SmallE (l : List EntryD) : Prop := l.length ≤ 1000 ∧ ∀ e ∈ l, e.name.length ≤ 1000
theorem SmallE.flat {l : List EntryD} (h : SmallE l) (i : Nat) : ((l.take i).flatMap entText).length ≤ 1010000 := by
 have h1 := flatMap_len entText 1010 (l.take i) fun x hx => by
  have := putText_len x.name
  have := putNum_len x.node
  have := h.2 x (List.mem_of_mem_take hx)
  unfold entText; rw [List.length_append]; omega
 have : (l.take i).length ≤ l.length := by simp; omega
 have := h.1
 omega
theorem i_DirText {l : List EntryD} (h : SmallE l) : iDirText l = some (dirText l) := by
 unfold iDirText
 simp only [i_PutNum, PN]
 have hl := h.1
 refine bnd_flat (fun i b => (b, (i : Int))) entText l [] (dirText l) rfl (fun i x hx => ?_) ?_ rfl
 ·have h1 := len_lt hx
  have h2 := h.flat i
  have h3 := putText_len x.name
  have h4 := h.2 x (List.mem_of_getElem? hx)
  have h5 := putNum_len x.node
  dsimp only
  rw [if_pos (by omega), gt_ok hx, bsome, i_PutText _ (by omega), bsome, ck_in (room (by omega) (by simp only [List.nil_append]; omega)), ck_in (room (by omega) (by simp only [List.nil_append, List.length_append]; omega)), ir_add1 (by omega)]
  unfold entText
  rw [List.append_assoc]
 ·dsimp only
  rw [if_neg (by omega), List.nil_append]; rfl
theorem s_DirText {l : List EntryD} (h : SmallE l) : sDirText l = some (dirText l) := by
 unfold sDirText
 simp only [s_PutNum, PN]
 have hl := h.1
 refine bnd_flat (fun i b => (b, (i : Int))) entText l [] (dirText l) rfl (fun i x hx => ?_) ?_ rfl
 ·have h1 := len_lt hx
  have h2 := h.flat i
  have h3 := putText_len x.name
  have h4 := h.2 x (List.mem_of_getElem? hx)
  have h5 := putNum_len x.node
  dsimp only
  rw [if_pos (by omega), gt_ok hx, bsome, s_PutText _ (by omega), bsome, ck_in (room (by omega) (by simp only [List.nil_append]; omega)), ck_in (room (by omega) (by simp only [List.nil_append, List.length_append]; omega)), ir_add1 (by omega)]
  unfold entText
  rw [List.append_assoc]
 ·dsimp only
  rw [if_neg (by omega), List.nil_append]; rfl
/-! The order of texts. -/
def Lt (a b : List UInt8) : Prop := Op.bytesLess a b = true
theorem less_total : ∀ a b : List UInt8, (Op.bytesLess a b = false) ↔ (Op.bytesLess b a = true ∨ a = b)
 | [], [] => by simp [Op.bytesLess]
 | [], _ :: _ => by simp [Op.bytesLess]
 | _ :: _, [] => by simp [Op.bytesLess]
 | x :: a, y :: b => by
  have ih := less_total a b
  by_cases h : x = y
  ·subst h
   unfold Op.bytesLess
   simpa using ih
  ·have h' : ¬ y = x := fun e => h e.symm
   have hn : x.toNat ≠ y.toNat := fun e => h (UInt8.toNat_inj.1 e)
   have e1 : Op.bytesLess (x :: a) (y :: b) = decide (x < y) := by unfold Op.bytesLess; simp [h]
   have e2 : Op.bytesLess (y :: b) (x :: a) = decide (y < x) := by unfold Op.bytesLess; simp [h']
   rw [e1, e2, decide_eq_false_iff_not, decide_eq_true_eq, UInt8.lt_iff_toNat_lt, UInt8.lt_iff_toNat_lt]
   constructor
   ·intro h1; left; omega
   ·rintro (h1 | h1)
    ·omega
    ·injection h1 with h1 _; exact absurd h1 h
theorem c_geqS (a b : List UInt8) : scmp .geq a b = tb (¬ Lt a b) := by
 rw [scmp_eq]
 unfold Lt
 show (!Op.bytesLess a b) = _
 cases h : Op.bytesLess a b with
 | true => rw [tb_neg (by simp)]; rfl
 | false => rw [tb_pos (by simp)]; rfl
theorem c_leqS (a b : List UInt8) : scmp .leq a b = tb (¬ Lt b a) := by
 rw [scmp_eq]
 unfold Lt
 show (Op.bytesLess a b || a == b) = _
 have := less_total b a
 cases h : Op.bytesLess b a with
 | true =>
  rw [tb_neg (by simp)]
  cases h2 : (Op.bytesLess a b || a == b) with
  | false => rfl
  | true =>
   rw [Bool.or_eq_true, beq_iff_eq] at h2
   have := this.2 (h2.imp id Eq.symm)
   rw [h] at this; cases this
 | false =>
  rw [tb_pos (by simp), Bool.or_eq_true, beq_iff_eq]
  exact (this.1 h).imp id Eq.symm
end Go.Ar
end
section
namespace Go.Ar
open Go.Proofs
set_option linter.unusedVariables false
set_option linter.unusedSimpArgs false
set_option maxRecDepth 20000
/-! ### Entries of directories -/
def EntA (l : List EntryD) (i : Nat) (e : EntryD) : Prop := (NameOk e.name ∨ e.name = [126]) ∧ (1 ≤ e.node ∧ e.node ≤ 9) ∧ (∀ p : EntryD, 0 < i → l[i - 1]? = some p → Lt p.name e.name)
def EntP (l : List EntryD) (i : Nat) (e : EntryD) : Prop := EntA l i e ∧ ∀ (j : Nat) (x : EntryD), j < i → l[j]? = some x → ¬ x.node = e.node
structure EntriesOk (l : List EntryD) : Prop where
 all : ∀ (i : Nat) (e : EntryD), l[i]? = some e → EntP l i e
 len : (dirText l).length ≤ 80
theorem g_HasNode {l : List EntryD} (hl : l.length ≤ 1000000) (nm : List UInt8) (node : Int) : gslices_ContainsFunc_Entry_iEntriesOk_1 l nm node = some (tb (¬ ∀ (j : Nat) (x : EntryD), l[j]? = some x → ¬ x.node = node)) := by
 unfold gslices_ContainsFunc_Entry_iEntriesOk_1 gslices_IndexFunc_Entry_iEntriesOk_1 iEntriesOk_1
 simp only [PN]
 rw [bnd_assoc]
 refine bnd_first (fun i : Nat => (i : Int)) l (fun i y => ¬ y.node = node) (fun i _ => .inr (i : Int)) (.inl ()) rfl (fun i y hy _ h => ?_) (fun i y hy _ h => ?_) (fun h => ?_) (fun h => ?_) (fun k y hy hn hj => ?_)
 ·have := len_lt hy
  rw [if_pos (by omega), gt_ok hy, bsome, if_neg h, ir_add1 (by omega)]
 ·have := len_lt hy
  rw [if_pos (by omega), gt_ok hy, bsome, if_pos (Classical.not_not.1 h)]
 ·rw [if_neg (by omega)]
 ·exact tb_some (iff_of_false (by omega) fun h2 => h2 h)
 ·exact tb_some (iff_of_true (by omega) (fun hh => hn (hh k y hy)))
theorem take_get {α : Type} {l : List α} {i j : Nat} {x : α} : (l.take i)[j]? = some x ↔ j < i ∧ l[j]? = some x := by
 rw [List.getElem?_take]
 split
 ·simp [*]
 ·simp [*]
theorem i_EntriesOk {l : List EntryD} (h : SmallE l) : iEntriesOk l = some (tb (EntriesOk l)) := by
 refine wp_eq ?_
 have hl := h.1
 unfold iEntriesOk
 simp only [i_NameOk, i_within, PN, c_geqS]
 refine wp_loop (fun s => l.length - s.toNat) (fun s => ∃ i : Nat, s = (i : Int) ∧ i ≤ l.length ∧ ∀ (j : Nat) (e : EntryD), j < i → l[j]? = some e → EntP l j e)
  (fun r => (r = .inl () ∧ ∀ (j : Nat) (e : EntryD), l[j]? = some e → EntP l j e) ∨ (r = .inr false ∧ ¬ EntriesOk l)) ⟨0, rfl, by omega, fun k s hk => by omega⟩ ?_ ?_
 ·rintro j ⟨i, rfl, h2, h3⟩
  refine wp_if (fun hi => ?_) (fun hi => wp_out (.inl ⟨rfl, fun k s hs => h3 k s (by have := len_lt hs; omega) hs⟩))
  obtain ⟨e, he⟩ := get_some (l := l) (i := i) (by omega)
  rw [gt_ok he, bsome]
  refine wp_bnd (fun r => (∃ z, r = .inl z ∧ EntA l i e) ∨ (r = .inr (.inr (.inr false)) ∧ ¬ EntriesOk l)) ?_ ?_
  ·have hbad : ∀ {P : Prop}, ¬ P → (EntA l i e → P) → ¬ EntriesOk l := fun hn hp ho => hn (hp (ho.all i e he).1)
   have tail : (NameOk e.name ∨ e.name = [126]) → (1 ≤ e.node ∧ e.node ≤ 9) → Wp (fun r : (Bool × Bool) ⊕ (Int ⊕ (Unit ⊕ Bool)) => (∃ z, r = .inl z ∧ EntA l i e) ∨ (r = .inr (.inr (.inr false)) ∧ ¬ EntriesOk l))
     (@ite _ (0 < (i : Int)) (Classical.propDecidable _) (bnd (gt l (iop .sub .i64 (i : Int) 1)) fun y => @ite _ (¬ Lt y.name e.name) (Classical.propDecidable _) (some (.inr (.inr (.inr false)))) (some (.inl (true, true)))) (some (.inl (false, false)))) := fun hn hk => by
    refine wp_if (fun h0 => ?_) (fun h0 => wp_some (.inl ⟨_, rfl, hn, hk, fun p hp => by omega⟩))
    obtain ⟨p, hp⟩ := get_some (l := l) (i := i - 1) (by have := len_lt he; omega)
    rw [isub (by omega), show (i : Int) - 1 = ((i - 1 : Nat) : Int) by omega, gt_ok hp, bsome]
    refine wp_if (fun hlt => wp_some (.inr ⟨rfl, hbad hlt fun ha => ha.2.2 p (by omega) hp⟩)) (fun hlt => wp_some (.inl ⟨_, rfl, hn, hk, fun q _ hq => ?_⟩))
    rw [hp] at hq; cases hq
    exact Classical.not_not.1 hlt
   refine wp_if (fun hn => wp_if (fun hk => tail (.inl hn) hk) (fun hk => wp_some (.inr ⟨rfl, hbad hk fun ha => ha.2.1⟩))) (fun hn => ?_)
   refine wp_if (fun h126 => wp_some (.inr ⟨rfl, hbad (P := NameOk e.name ∨ e.name = [126]) (fun hh => hh.elim hn h126) fun ha => ha.1⟩)) (fun h126 => ?_)
   exact wp_if (fun hk => tail (.inr (Classical.not_not.1 h126)) hk) (fun hk => wp_some (.inr ⟨rfl, hbad hk fun ha => ha.2.1⟩))
  ·rintro r (⟨z, rfl, ha⟩ | ⟨rfl, hno⟩)
   ·rw [Sum.elim_inl, ck_in (ins (by omega)), sb_to, g_HasNode (by simp; omega), bsome, cond_tb]
    refine wp_if (fun hh => wp_out (.inr ⟨rfl, fun ho => hh fun j x hx => ?_⟩)) (fun hh => ?_)
    ·obtain ⟨h1, h2⟩ := take_get.1 hx
     exact (ho.all i e he).2 j x h1 h2
    ·have hh := Classical.not_not.1 hh
     refine wp_back ⟨i + 1, ir_add1 (by omega), by omega, fun j x hj hx => ?_⟩ (by rw [ir_add1 (by omega)]; omega)
     by_cases e0 : j = i
     ·subst e0
      rw [he] at hx; cases hx
      exact ⟨ha, fun k y hk hy => hh k y (take_get.2 ⟨hk, hy⟩)⟩
     ·exact h3 j x (by omega) hx
   ·exact wp_out (.inr ⟨rfl, hno⟩)
 ·rintro r (⟨rfl, ha⟩ | ⟨rfl, hno⟩)
  ·rw [Sum.elim_inl, i_DirText h, bsome]
   exact wp_some (tb_congr ⟨fun hh => ⟨ha, by omega⟩, fun ho => by have := ho.len; omega⟩)
  ·exact wp_no hno
theorem s_l8Name (s : List UInt8) : sl8Name s = some (tb (NameOk s ∨ s = [126])) := by
 unfold sl8Name
 simp only [s_NameOk, PN]
 by_cases h : s = [126]
 ·rw [if_pos h, tb_pos (.inr h)]
 ·rw [if_neg h]
  exact tb_some ⟨.inl, fun hh => hh.resolve_right h⟩
theorem s_EntriesOk {l : List EntryD} (h : SmallE l) : sEntriesOk l = some (tb (EntriesOk l)) := by
 refine wp_eq ?_
 have hl := h.1
 unfold sEntriesOk
 simp only [s_l8Name, s_l1In, PN, c_leqS]
 refine wp_loop (fun s => l.length - s.toNat) (fun s => ∃ i : Nat, s = (i : Int) ∧ i ≤ l.length ∧ ∀ (j : Nat) (e : EntryD), j < i → l[j]? = some e → EntP l j e)
  (fun r => (r = .inl () ∧ ∀ (j : Nat) (e : EntryD), l[j]? = some e → EntP l j e) ∨ (r = .inr false ∧ ¬ EntriesOk l)) ⟨0, rfl, by omega, fun k s hk => by omega⟩ ?_ ?_
 ·rintro j ⟨i, rfl, h2, h3⟩
  refine wp_if (fun hi => ?_) (fun hi => wp_out (.inl ⟨rfl, fun k s hs => h3 k s (by have := len_lt hs; omega) hs⟩))
  obtain ⟨e, he⟩ := get_some (l := l) (i := i) (by omega)
  rw [gt_ok he, bsome]
  have hbad : ∀ {P : Prop}, ¬ P → (EntA l i e → P) → ¬ EntriesOk l := fun hn hp ho => hn (hp (ho.all i e he).1)
  refine wp_bnd (fun r => (∃ z, r = .inl z ∧ EntP l i e) ∨ (r = .inr (.inr (.inr false)) ∧ ¬ EntriesOk l)) ?_ ?_
  ·refine wp_bnd (fun r => (∃ z, r = .inl z ∧ EntA l i e) ∨ (r = .inr (.inr (.inr (.inr false))) ∧ ¬ EntriesOk l)) ?_ ?_
   ·refine wp_if (fun hn => wp_if (fun hk => ?_) (fun hk => wp_some (.inr ⟨rfl, hbad hk fun ha => ha.2.1⟩))) (fun hn => wp_some (.inr ⟨rfl, hbad hn fun ha => ha.1⟩))
    refine wp_if (fun h0 => ?_) (fun h0 => wp_some (.inl ⟨_, rfl, hn, hk, fun p hp => by omega⟩))
    obtain ⟨p, hp⟩ := get_some (l := l) (i := i - 1) (by have := len_lt he; omega)
    rw [isub (by omega), show (i : Int) - 1 = ((i - 1 : Nat) : Int) by omega, gt_ok hp, bsome]
    refine wp_if (fun hlt => wp_some (.inr ⟨rfl, hbad hlt fun ha => ha.2.2 p (by omega) hp⟩)) (fun hlt => wp_some (.inl ⟨_, rfl, hn, hk, fun q _ hq => ?_⟩))
    rw [hp] at hq; cases hq
    exact Classical.not_not.1 hlt
   ·rintro r (⟨z, rfl, ha⟩ | ⟨rfl, hno⟩)
    ·rw [Sum.elim_inl]
     refine wp_lp (fun s => i - s.toNat) (fun s => ∃ k : Nat, s = (k : Int) ∧ k ≤ i ∧ ∀ (j : Nat) (x : EntryD), j < k → l[j]? = some x → ¬ x.node = e.node) ⟨0, rfl, by omega, fun j x hj => by omega⟩ ?_
     rintro q ⟨k, rfl, hk, hk2⟩
     refine wp_if (fun hlt => ?_) (fun hlt => wp_out (.inl ⟨_, rfl, ha, fun j x hj hx => hk2 j x (by omega) hx⟩))
     obtain ⟨x, hx⟩ := get_some (l := l) (i := k) (by have := len_lt he; omega)
     rw [gt_ok hx, bsome, bsome]
     refine wp_if (fun heq => wp_out (.inr ⟨rfl, fun ho => (ho.all i e he).2 k x (by omega) hx heq⟩)) (fun hne => ?_)
     refine wp_back ⟨k + 1, ir_add1 (by omega), by omega, fun j y hj hy => ?_⟩ (by rw [ir_add1 (by omega)]; omega)
     by_cases e0 : j = k
     ·subst e0
      rw [hx] at hy; cases hy
      exact hne
     ·exact hk2 j y (by omega) hy
    ·exact wp_some (.inr ⟨rfl, hno⟩)
  ·rintro r (⟨z, rfl, ha⟩ | ⟨rfl, hno⟩)
   ·rw [Sum.elim_inl]
    refine wp_back ⟨i + 1, ir_add1 (by omega), by omega, fun j x hj hx => ?_⟩ (by rw [ir_add1 (by omega)]; omega)
    by_cases e0 : j = i
    ·subst e0
     rw [he] at hx; cases hx
     exact ha
    ·exact h3 j x (by omega) hx
   ·exact wp_out (.inr ⟨rfl, hno⟩)
 ·rintro r (⟨rfl, ha⟩ | ⟨rfl, hno⟩)
  ·rw [Sum.elim_inl, s_DirText h, bsome]
   exact wp_some (tb_congr ⟨fun hh => ⟨ha, by omega⟩, fun ho => by have := ho.len; omega⟩)
  ·exact wp_no hno
/-! ### Directories read -/
noncomputable def dp (b : List UInt8) : Nat → Nat → List EntryD → Option (List EntryD)
 | 0, _, _ => none
 | f + 1, p, acc => if p < b.length then
   (if (getText b (p : Int)).2.2 = true then (if (getNum b (getText b (p : Int)).2.1).2.2 = true then dp b f (getNum b (getText b (p : Int)).2.1).2.1.toNat (acc ++ [⟨(getText b (p : Int)).1, (getNum b (getText b (p : Int)).2.1).1⟩]) else none) else none) else some acc
theorem dp_succ (b : List UInt8) (f p : Nat) (acc : List EntryD) : dp b (f + 1) p acc = if p < b.length then
   (if (getText b (p : Int)).2.2 = true then (if (getNum b (getText b (p : Int)).2.1).2.2 = true then dp b f (getNum b (getText b (p : Int)).2.1).2.1.toNat (acc ++ [⟨(getText b (p : Int)).1, (getNum b (getText b (p : Int)).2.1).1⟩]) else none) else none) else some acc := rfl
open Classical in
noncomputable def dirOf (b : List UInt8) : List EntryD × Bool := match dp b (b.length + 1) 0 [] with
 | some l => if EntriesOk l then (l, true) else ([], false)
 | none => ([], false)
theorem i_DirOf (b : List UInt8) (hb : b.length ≤ 900) : iDirOf b = some (dirOf b) := by
 refine wp_eq ?_
 unfold iDirOf
 simp only [i_GetNum b _ (show b.length ≤ 1000000 by omega), PN]
 refine wp_ck (room (by omega) (by omega)) ?_
 refine wp_loop (fun s => b.length - s.2.toNat) (fun s => ∃ (p f : Nat), s.2 = (p : Int) ∧ p ≤ b.length ∧ s.1.length ≤ p ∧ (∀ e ∈ s.1, e.name.length ≤ b.length) ∧ b.length - p < f ∧ dp b (b.length + 1) 0 [] = dp b f p s.1)
  (fun r => (∃ l, r = .inl l ∧ l.length ≤ b.length ∧ (∀ e ∈ l, e.name.length ≤ b.length) ∧ dp b (b.length + 1) 0 [] = some l) ∨ (r = .inr ([], false) ∧ dp b (b.length + 1) 0 [] = none)) ⟨0, b.length + 1, rfl, by omega, by simp, (fun e he => by cases he), by omega, rfl⟩ ?_ ?_
 ·rintro ⟨acc, q⟩ ⟨p, f, h1, h2, h3, h4, h5, h6⟩
  dsimp only at h1 h3 h4 h6 ⊢
  subst h1
  obtain ⟨f, rfl⟩ : ∃ g, f = g + 1 := ⟨f - 1, by omega⟩
  rw [dp_succ b f p acc] at h6
  refine wp_if (fun hp => ?_) (fun hp => wp_out (.inl ⟨_, rfl, by omega, h4, by rw [h6, if_neg (by omega)]⟩))
  rw [if_pos (by omega)] at h6
  rw [i_GetText b p (by omega), bsome]
  rcases ht : getText b (p : Int) with ⟨t, k, ok⟩
  rw [ht] at h6
  dsimp only at h6 ⊢
  cases ok with
  | false => simp only [cond_false]; exact wp_out (.inr ⟨rfl, by rw [h6, if_neg (by simp)]⟩)
  | true =>
   obtain ⟨k, rfl, k1, k2, k3⟩ := getText_yes ht
   rw [if_pos rfl] at h6
   rcases hg : getNum b (k : Int) with ⟨n, r, ok⟩
   rw [hg] at h6
   dsimp only at h6 ⊢
   simp only [cond_true]
   cases ok with
   | false => simp only [cond_false]; exact wp_out (.inr ⟨rfl, by rw [h6, if_neg (by simp)]⟩)
   | true =>
    obtain ⟨m, c, rfl, rfl, q1, q2, q3⟩ := getNum_yes hg
    rw [if_pos rfl, Int.toNat_natCast] at h6
    simp only [cond_true]
    refine wp_ck (room (by omega) (by omega)) (wp_back ⟨k + c, f, rfl, q2, by simp; omega, fun e he => ?_, by omega, h6⟩ (by dsimp only; omega))
    rcases List.mem_append.1 he with he | he
    ·exact h4 e he
    ·obtain rfl := List.mem_singleton.1 he
     exact k3
 ·rintro r (⟨l, rfl, k1, k2, k3⟩ | ⟨rfl, hno⟩)
  ·rw [Sum.elim_inl, i_EntriesOk ⟨by omega, fun e he => by have := k2 e he; omega⟩, bsome, cond_tb]
   exact wp_if (fun ho => wp_some (by unfold dirOf; rw [k3]; dsimp only; rw [if_pos ho])) (fun ho => wp_some (by unfold dirOf; rw [k3]; dsimp only; rw [if_neg ho]))
  ·exact wp_some (by unfold dirOf; rw [hno])
theorem s_DirOf (b : List UInt8) (hb : b.length ≤ 900) : sDirOf b = some (dirOf b) := by
 refine wp_eq ?_
 unfold sDirOf
 simp only [s_GetNum b _ (show b.length ≤ 1000000 by omega), PN]
 refine wp_ck (room (by omega) (by omega)) ?_
 refine wp_loop (fun s => b.length - s.2.toNat) (fun s => ∃ (p f : Nat), s.2 = (p : Int) ∧ p ≤ b.length ∧ s.1.length ≤ p ∧ (∀ e ∈ s.1, e.name.length ≤ b.length) ∧ b.length - p < f ∧ dp b (b.length + 1) 0 [] = dp b f p s.1)
  (fun r => (∃ l, r = .inl l ∧ l.length ≤ b.length ∧ (∀ e ∈ l, e.name.length ≤ b.length) ∧ dp b (b.length + 1) 0 [] = some l) ∨ (r = .inr ([], false) ∧ dp b (b.length + 1) 0 [] = none)) ⟨0, b.length + 1, rfl, by omega, by simp, (fun e he => by cases he), by omega, rfl⟩ ?_ ?_
 ·rintro ⟨acc, q⟩ ⟨p, f, h1, h2, h3, h4, h5, h6⟩
  dsimp only at h1 h3 h4 h6 ⊢
  subst h1
  obtain ⟨f, rfl⟩ : ∃ g, f = g + 1 := ⟨f - 1, by omega⟩
  rw [dp_succ b f p acc] at h6
  refine wp_if (fun hp => ?_) (fun hp => wp_out (.inl ⟨_, rfl, by omega, h4, by rw [h6, if_neg (by omega)]⟩))
  rw [if_pos (by omega)] at h6
  rw [s_GetText b p (by omega), bsome]
  rcases ht : getText b (p : Int) with ⟨t, k, ok⟩
  rw [ht] at h6
  dsimp only at h6 ⊢
  cases ok with
  | false => simp only [cond_false]; exact wp_out (.inr ⟨rfl, by rw [h6, if_neg (by simp)]⟩)
  | true =>
   obtain ⟨k, rfl, k1, k2, k3⟩ := getText_yes ht
   rw [if_pos rfl] at h6
   rcases hg : getNum b (k : Int) with ⟨n, r, ok⟩
   rw [hg] at h6
   dsimp only at h6 ⊢
   simp only [cond_true]
   cases ok with
   | false => simp only [cond_false]; exact wp_out (.inr ⟨rfl, by rw [h6, if_neg (by simp)]⟩)
   | true =>
    obtain ⟨m, c, rfl, rfl, q1, q2, q3⟩ := getNum_yes hg
    rw [if_pos rfl, Int.toNat_natCast] at h6
    simp only [cond_true]
    refine wp_ck (room (by omega) (by omega)) (wp_back ⟨k + c, f, rfl, q2, by simp; omega, fun e he => ?_, by omega, h6⟩ (by dsimp only; omega))
    rcases List.mem_append.1 he with he | he
    ·exact h4 e he
    ·obtain rfl := List.mem_singleton.1 he
     exact k3
 ·rintro r (⟨l, rfl, k1, k2, k3⟩ | ⟨rfl, hno⟩)
  ·rw [Sum.elim_inl, s_EntriesOk ⟨by omega, fun e he => by have := k2 e he; omega⟩, bsome, cond_tb]
   exact wp_if (fun ho => wp_some (by unfold dirOf; rw [k3]; dsimp only; rw [if_pos ho])) (fun ho => wp_some (by unfold dirOf; rw [k3]; dsimp only; rw [if_neg ho]))
  ·exact wp_some (by unfold dirOf; rw [hno])
end Go.Ar
end
section
namespace Go.Ar
open Go.Proofs
set_option linter.unusedVariables false
set_option linter.unusedSimpArgs false
set_option maxRecDepth 20000
/-! ### What a node holds -/
def content (f : FsD) (n : NodeD) : List UInt8 := n.blocks.flatMap fun b => f.data.getD b.toNat []
theorem ShapeOk.blk {f : FsD} (hs : ShapeOk f) {i : Nat} {n : NodeD} (hn : f.nodes[i]? = some n) {k : Nat} {b : Int} (hb : n.blocks[k]? = some b) : 0 ≤ b ∧ ∃ s, f.data[b.toNat]? = some s ∧ s.length ≤ 16 := by
 have h1 := hs.good.1 b (blk_mem hn hb)
 obtain ⟨s, h2⟩ := get_some (l := f.data) (i := b.toNat) (by omega)
 exact ⟨h1.1, s, h2, (hs.data _ _ h2).1⟩
theorem content_le {f : FsD} (hs : ShapeOk f) {i : Nat} {n : NodeD} (hn : f.nodes[i]? = some n) (q : Nat) : ((n.blocks.take q).flatMap fun b => f.data.getD b.toNat []).length ≤ 80 := by
 have h1 := flatMap_len (fun b : Int => f.data.getD b.toNat []) 16 (n.blocks.take q) fun b hb => by
  obtain ⟨k, hk⟩ := List.mem_iff_getElem?.1 (List.mem_of_mem_take hb)
  obtain ⟨_, s, h2, h3⟩ := hs.blk hn hk
  rw [List.getD_eq_getElem?_getD, h2]; exact h3
 have h2 := (hs.nodes i n hn).len
 have : (n.blocks.take q).length ≤ n.blocks.length := by simp; omega
 omega
theorem i_content {f : FsD} (hs : ShapeOk f) {i : Nat} {n : NodeD} (hn : f.nodes[i]? = some n) : icontent f (i : Int) = some (content f n) := by
 unfold icontent
 simp only [PN]
 rw [gt_ok hn, bsome]
 refine bnd_flat (fun i b => (b, (i : Int))) (fun b => f.data.getD b.toNat []) n.blocks [] (content f n) rfl (fun q b hb => ?_) ?_ rfl
 ·have h1 := len_lt hb
  have h2 := (hs.nodes i n hn).len
  obtain ⟨h3, s, h4, h5⟩ := hs.blk hn hb
  have h6 := content_le hs hn q
  dsimp only
  rw [if_pos (by omega), gt_ok hb, bsome, gtI h3 h4, bsome, ck_in (room (by omega) (by simp only [List.nil_append]; omega)), ir_add1 (by omega), List.getD_eq_getElem?_getD, h4]
  rfl
 ·dsimp only
  rw [if_neg (by omega), List.nil_append]; rfl
theorem s_content {f : FsD} (hs : ShapeOk f) {i : Nat} {n : NodeD} (hn : f.nodes[i]? = some n) : sl7Read f (i : Int) = some (content f n) := by
 unfold sl7Read
 simp only [PN]
 refine bnd_flat (fun i b => (b, (i : Int))) (fun b => f.data.getD b.toNat []) n.blocks [] (content f n) rfl (fun q b hb => ?_) ?_ rfl
 ·have h1 := len_lt hb
  have h2 := (hs.nodes i n hn).len
  obtain ⟨h3, s, h4, h5⟩ := hs.blk hn hb
  have h6 := content_le hs hn q
  dsimp only
  rw [gt_ok hn, bsome, if_pos (by omega), gt_ok hb, bsome, gtI h3 h4, bsome, ck_in (room (by omega) (by simp only [List.nil_append]; omega)), ir_add1 (by omega), List.getD_eq_getElem?_getD, h4]
  rfl
 ·dsimp only
  rw [gt_ok hn, bsome, if_neg (by omega), List.nil_append]; rfl
noncomputable def dirAt (f : FsD) (n : NodeD) : List EntryD × Bool := dirOf (content f n)
theorem content_len {f : FsD} (hs : ShapeOk f) {i : Nat} {n : NodeD} (hn : f.nodes[i]? = some n) : (content f n).length ≤ 80 := by
 have := content_le hs hn n.blocks.length
 rwa [List.take_length] at this
theorem i_entries {f : FsD} (hs : ShapeOk f) {i : Nat} {n : NodeD} (hn : f.nodes[i]? = some n) : ientries f (i : Int) = some (dirAt f n) := by
 unfold ientries dirAt
 rw [i_content hs hn, bsome, i_DirOf _ (by have := content_len hs hn; omega), bsome]
theorem s_l9Dir {f : FsD} (hs : ShapeOk f) {i : Nat} {n : NodeD} (hn : f.nodes[i]? = some n) (hk : n.kind = 2) : sl9Dir f (i : Int) = some (dirAt f n) := by
 unfold sl9Dir dirAt
 simp only [PN]
 rw [gt_ok hn, bsome, if_neg (fun h => h hk), s_content hs hn, bsome, s_DirOf _ (by have := content_len hs hn; omega), bsome]
theorem dirOf_ok {b : List UInt8} {l : List EntryD} (h : dirOf b = (l, true)) : EntriesOk l := by
 unfold dirOf at h
 cases hd : dp b (b.length + 1) 0 [] with
 | none => rw [hd] at h; injection h with _ h; cases h
 | some l0 =>
  rw [hd] at h
  dsimp only at h
  by_cases ho : EntriesOk l0
  ·rw [if_pos ho] at h
   injection h with h _
   exact h ▸ ho
  ·rw [if_neg ho] at h
   injection h with _ h; cases h
theorem len_flat {α β : Type} (g : α → List β) (l : List α) (h : ∀ x ∈ l, 1 ≤ (g x).length) : l.length ≤ (l.flatMap g).length := by
 induction l with
 | nil => simp
 | cons x l ih =>
  have h1 := h x (by simp)
  have h2 := ih fun y hy => h y (by simp [hy])
  simp only [List.flatMap_cons, List.length_append, List.length_cons]
  omega
theorem EntriesOk.n80 {l : List EntryD} (h : EntriesOk l) : l.length ≤ 80 := by
 refine Nat.le_trans (len_flat entText l fun e he => ?_) h.len
 obtain ⟨k, hk⟩ := List.mem_iff_getElem?.1 he
 have h1 := (h.all k e hk).1.2.1
 have h2 := putNat_pos e.node.toNat
 rw [← putNum_in (x := e.node) (by omega)] at h2
 unfold entText
 rw [List.length_append]; omega
theorem if_skip {γ : Type} {c1 c2 : Prop} {d1 : Decidable c1} {d2 : Decidable c2} {x y : γ} (h : ¬ (c1 ∧ c2)) : @ite _ c1 d1 (@ite _ c2 d2 x y) y = y := by
 split
 ·split
  ·exact absurd ⟨by assumption, by assumption⟩ h
  ·rfl
 ·rfl
theorem if_skip2 {γ : Type} {c1 c2 c3 : Prop} {d1 : Decidable c1} {d2 : Decidable c2} {d3 : Decidable c3} {x z y : γ} (h : ¬ (c1 ∧ (c2 ∨ c3))) : @ite _ c1 d1 (@ite _ c2 d2 x (@ite _ c3 d3 z y)) y = y := by
 split
 ·split
  ·exact absurd ⟨by assumption, .inl (by assumption)⟩ h
  ·split
   ·exact absurd ⟨by assumption, .inr (by assumption)⟩ h
   ·rfl
 ·rfl
/-! ### The nodes below a directory -/
def At (s : List Int) (k : Int) : Int := s.getD k.toNat 0
noncomputable def visE (rec : Int → Nat → List Int → Option (List Int)) (f : FsD) (i : Int) (d : Nat) (s : List Int) (e : EntryD) : Option (List Int) := open Classical in
 if (f.nodes.length : Int) ≤ e.node ∨ (f.nodes.getD e.node.toNat nodeZ).kind = 0 ∨ 0 < At s e.node then none
 else if e.name = [126] ∧ (¬ i = 0 ∨ ¬ (f.nodes.getD e.node.toNat nodeZ).kind = 1) then none
 else if (f.nodes.getD e.node.toNat nodeZ).kind = 2 then rec e.node (d + 1) (s.set e.node.toNat 1) else some (s.set e.node.toNat 1)
noncomputable def foldE (g : List Int → EntryD → Option (List Int)) : List EntryD → List Int → Option (List Int)
 | [], s => some s
 | e :: l, s => (g s e).bind fun t => foldE g l t
noncomputable def vis (f : FsD) : Nat → Int → Nat → List Int → Option (List Int)
 | 0, _, _, _ => none
 | k + 1, i, d, s => @ite _ ((dirAt f (f.nodes.getD i.toNat nodeZ)).2 = false ∨ (d = 4 ∧ ¬ (dirAt f (f.nodes.getD i.toNat nodeZ)).1 = [])) (Classical.propDecidable _) none
  (foldE (visE (vis f k) f i d) (dirAt f (f.nodes.getD i.toNat nodeZ)).1 s)
structure SeenOk (f : FsD) (s : List Int) : Prop where
 len : s.length = f.nodes.length
 bit : ∀ (k : Nat) (x : Int), s[k]? = some x → x = 0 ∨ x = 1
 free : ∀ (k : Nat) (n : NodeD), f.nodes[k]? = some n → n.kind = 0 → s[k]? = some 0
theorem SeenOk.set {f : FsD} {s : List Int} (h : SeenOk f s) {k : Nat} {n : NodeD} (hn : f.nodes[k]? = some n) (hk : ¬ n.kind = 0) : SeenOk f (s.set k 1) := by
 refine ⟨by simpa using h.len, fun j x hx => ?_, fun j m hm hz => ?_⟩
 ·rw [List.getElem?_set] at hx
  split at hx
  ·split at hx
   ·cases hx; exact .inr rfl
   ·cases hx
  ·exact h.bit j x hx
 ·rw [List.getElem?_set_ne]
  ·exact h.free j m hm hz
  ·intro e
   subst e
   rw [hn] at hm; cases hm
   exact hk hz
theorem at_get {s : List Int} {k : Int} {x : Int} (h : s[k.toNat]? = some x) : At s k = x := by unfold At; rw [List.getD_eq_getElem?_getD, h]; rfl
theorem getD_get {l : List NodeD} {k : Nat} {n : NodeD} (h : l[k]? = some n) : l.getD k nodeZ = n := by rw [List.getD_eq_getElem?_getD, h]; rfl
theorem foldE_step {g : List Int → EntryD → Option (List Int)} {l : List EntryD} {j : Nat} {e : EntryD} (he : l[j]? = some e) (s : List Int) : foldE g (l.drop j) s = (g s e).bind fun t => foldE g (l.drop (j + 1)) t := by
 rw [drop_at he]; rfl
theorem vis_succ (f : FsD) (k : Nat) (i : Int) (d : Nat) (s : List Int) : vis f (k + 1) i d s = @ite _ ((dirAt f (f.nodes.getD i.toNat nodeZ)).2 = false ∨ (d = 4 ∧ ¬ (dirAt f (f.nodes.getD i.toNat nodeZ)).1 = [])) (Classical.propDecidable _) none
  (foldE (visE (vis f k) f i d) (dirAt f (f.nodes.getD i.toNat nodeZ)).1 s) := rfl
theorem i_visit {f : FsD} (hs : ShapeOk f) : ∀ (k : Nat) (i d : Nat) (n : NodeD) (s : List Int), d ≤ 4 → 6 ≤ k + d → f.nodes[i]? = some n → SeenOk f s →
  Wp (fun r : Bool × List Int => (∃ t, vis f k (i : Int) d s = some t ∧ r = (true, t) ∧ SeenOk f t) ∨ (vis f k (i : Int) d s = none ∧ r.1 = false)) (ivisitN k f (i : Int) (d : Int) s) := by
 intro k
 induction k with
 | zero => intro i d n s h1 h2; omega
 | succ k ih =>
  intro i d n s hd hk hn hS
  have hv := vis_succ f k (i : Int) d s
  rw [Int.toNat_natCast, getD_get hn] at hv
  rw [ivisitN, i_entries hs hn, bsome]
  rcases hD : dirAt f n with ⟨l, ok⟩
  rw [hD] at hv
  dsimp only at hv ⊢
  simp only [PN]
  cases ok with
  | false =>
   rw [if_pos (.inl rfl)] at hv
   simp only [cond_false, bsome, Sum.elim_inr]
   exact wp_some (.inr ⟨hv, rfl⟩)
  | true =>
   have hE := dirOf_ok hD
   have hl9 := hE.n80
   simp only [cond_true, bite, bsome, Sum.elim_inl, Sum.elim_inr]
   by_cases hc : d = 4 ∧ ¬ l = []
   ·rw [if_pos (.inr hc)] at hv
    have hl0 : 0 < l.length := by
     cases l with
     | nil => exact absurd rfl hc.2
     | cons _ _ => simp
    rw [if_pos (show (d : Int) = 4 by omega), if_pos (by omega)]
    exact wp_some (.inr ⟨hv, rfl⟩)
   ·rw [if_neg (by simpa using hc)] at hv
    rw [if_skip (fun hh => hc ⟨by omega, fun hl => by rw [hl] at hh; simp at hh⟩)]
    generalize hV : vis f (k + 1) (i : Int) d s = V at *
    refine wp_loop (fun x => l.length - x.1.toNat) (fun x => ∃ j : Nat, x.1 = (j : Int) ∧ j ≤ l.length ∧ SeenOk f x.2 ∧ V = foldE (visE (vis f k) f (i : Int) d) (l.drop j) x.2)
     (fun r => (∃ t, r = .inl t ∧ V = some t ∧ SeenOk f t) ∨ ∃ q : Bool × List Int, r = .inr q ∧ V = none ∧ q.1 = false)
     ⟨0, rfl, by omega, hS, by rw [hv, List.drop_zero]⟩ ?_ ?_
    ·rintro ⟨a, t⟩ ⟨j, e1, h6, h7, h8⟩
     dsimp only at e1 h7 h8 ⊢
     subst e1
     refine wp_if (fun hj => ?_) (fun hj => wp_out (.inl ⟨t, rfl, by rw [h8, List.drop_eq_nil_of_le (by omega)]; rfl, h7⟩))
     obtain ⟨e, he⟩ := get_some (l := l) (i := j) (by omega)
     have hen := (hE.all j e he).1.2.1
     rw [foldE_step he] at h8
     have hno : visE (vis f k) f (i : Int) d t e = none → V = none := fun h => by rw [h8, h]; rfl
     rw [gt_ok he, bsome]
     refine wp_if (fun hge => wp_out (.inr ⟨_, rfl, hno (by unfold visE; rw [if_pos (.inl hge)]), rfl⟩)) (fun hlt => ?_)
     obtain ⟨m, hm⟩ := get_some (l := f.nodes) (i := e.node.toNat) (by omega)
     rw [gtI (by omega) hm, bsome]
     refine wp_if (fun hz => wp_out (.inr ⟨_, rfl, hno (by unfold visE; rw [if_pos (.inr (.inl (by rw [getD_get hm]; exact hz)))]), rfl⟩)) (fun hz => ?_)
     obtain ⟨x, hx⟩ := get_some (l := t) (i := e.node.toNat) (by rw [h7.len]; omega)
     rw [gtI (by omega) hx, bsome]
     refine wp_if (fun hp => wp_out (.inr ⟨_, rfl, hno (by unfold visE; rw [if_pos (.inr (.inr (by rw [at_get hx]; exact hp)))]), rfl⟩)) (fun hp => ?_)
     have hx0 : x = 0 := (h7.bit _ _ hx).resolve_right (by omega)
     subst hx0
     have hset : sl t e.node (iop .add .i64 0 1) = t.set e.node.toNat 1 := by rw [sl_eq, iadd (by omega)]; rfl
     have hS' := h7.set hm hz
     have hbase : ¬ ((f.nodes.length : Int) ≤ e.node ∨ (f.nodes.getD e.node.toNat nodeZ).kind = 0 ∨ 0 < At t e.node) := by
      rw [getD_get hm, at_get hx]
      rintro (h | h | h)
      ·exact hlt h
      ·exact hz h
      ·omega
     rw [hset]
     by_cases hh : e.name = [126] ∧ (¬ (i : Int) = 0 ∨ ¬ m.kind = 1)
     ·have bad : V = none := hno (by unfold visE; rw [if_neg hbase, getD_get hm, if_pos hh])
      exact wp_if (fun h126 => wp_if (fun _ => wp_out (.inr ⟨_, rfl, bad, rfl⟩)) (fun hi0 => wp_if (fun _ => wp_out (.inr ⟨_, rfl, bad, rfl⟩)) (fun hk1 => (hh.2.elim (absurd · hi0) (absurd · hk1))))) (fun h126 => absurd hh.1 h126)
     ·rw [if_skip2 hh]
      refine wp_if (fun h2 => ?_) (fun h2 => ?_)
      ·have hd3 : d ≤ 3 := by
        have : ¬ d = 4 := fun h4 => hc ⟨h4, fun hl => by rw [hl] at he; simp at he⟩
        omega
       have hrec := ih e.node.toNat (d + 1) m (t.set e.node.toNat 1) (by omega) (by omega) hm hS'
       rw [Int.toNat_of_nonneg (by omega)] at hrec
       have hve : visE (vis f k) f (i : Int) d t e = vis f k e.node (d + 1) (t.set e.node.toNat 1) := by
        unfold visE
        rw [if_neg hbase, getD_get hm, if_neg hh, if_pos h2]
       rw [ir_add1 (show d < 4611686018427387904 by omega)]
       refine wp_bnd _ hrec ?_
       rintro ⟨b, u⟩ (⟨t', q1, q2, q3⟩ | ⟨q1, q2⟩)
       ·injection q2 with q2 q4
        subst q2 q4
        simp only [cond_true]
        refine wp_back ⟨j + 1, ir_add1 (by omega), by omega, q3, ?_⟩ (by dsimp only; rw [ir_add1 (by omega)]; omega)
        rw [h8, hve, q1]; rfl
       ·dsimp only at q2
        subst q2
        simp only [cond_false]
        exact wp_out (.inr ⟨_, rfl, hno (by rw [hve]; exact q1), rfl⟩)
      ·have hve : visE (vis f k) f (i : Int) d t e = some (t.set e.node.toNat 1) := by
        unfold visE
        rw [if_neg hbase, getD_get hm, if_neg hh, if_neg h2]
       refine wp_back ⟨j + 1, ir_add1 (by omega), by omega, hS', ?_⟩ (by dsimp only; rw [ir_add1 (by omega)]; omega)
       rw [h8, hve]; rfl
    ·rintro r (⟨t, rfl, q1, q2⟩ | ⟨q, rfl, q1, q2⟩)
     ·exact wp_some (.inl ⟨t, q1, rfl, q2⟩)
     ·exact wp_some (.inr ⟨q1, q2⟩)
end Go.Ar
end
section
namespace Go.Ar
open Go.Proofs
set_option linter.unusedVariables false
set_option linter.unusedSimpArgs false
set_option maxRecDepth 20000
/-! ### More fuel changes nothing -/
def LeO {α : Type} (x y : Option α) : Prop := ∀ r, x = some r → y = some r
theorem LeO.rfl {α : Type} (x : Option α) : LeO x x := fun _ h => h
theorem bnd_le {α β : Type} {x x' : Option α} {f f' : α → Option β} (h : LeO x x') (k : ∀ y, LeO (f y) (f' y)) : LeO (bnd x f) (bnd x' f') := fun r hr => by
 obtain ⟨y, h1, h2⟩ := bnd_out hr
 rw [bnd_in (h y h1)]
 exact k y r h2
theorem cond_le {α : Type} {b : Bool} {x y x' y' : Option α} (h1 : LeO x x') (h2 : LeO y y') : LeO (cond b x y) (cond b x' y') := by
 cases b with
 | true => exact h1
 | false => exact h2
theorem ck_le {α : Type} {P : Prop} {x x' : Option α} (h : LeO x x') : LeO (ck P x) (ck P x') := fun r hr => by
 obtain ⟨h1, h2⟩ := ck_out hr
 rw [ck_in h1]; exact h r h2
theorem elim_le {α β γ : Type} {f f' : α → Option γ} {g g' : β → Option γ} (h1 : ∀ a, LeO (f a) (f' a)) (h2 : ∀ b, LeO (g b) (g' b)) (y : α ⊕ β) : LeO (Sum.elim f g y) (Sum.elim f' g' y) := by
 cases y with
 | inl a => exact h1 a
 | inr b => exact h2 b
theorem lp_le {σ ρ : Type} {f f' : σ → Option (σ ⊕ ρ)} (h : ∀ s, LeO (f s) (f' s)) (s0 : σ) : LeO (lp f s0) (lp f' s0) := fun r hr => by
 obtain ⟨n, hn⟩ := lp_run hr
 refine lp_of (n := n) ?_
 have key : ∀ n s, runN f n s = some r → runN f' n s = some r := by
  intro n
  induction n with
  | zero => intro s h; cases h
  | succ n ih =>
   intro s hs
   obtain ⟨m, e, x, h1, h2⟩ := runN_out hs
   injection e with e
   subst e
   unfold runN
   rw [h s x h1]
   rcases h2 with ⟨s', rfl, h2⟩ | rfl
   ·exact ih s' h2
   ·rfl
 exact key n s0 hn
theorem ivisit_up : ∀ (n : Nat) (a0 : FsD) (a1 a2 : Int) (a3 : List Int), LeO (ivisitN n a0 a1 a2 a3) (ivisitN (n + 1) a0 a1 a2 a3) := by
 intro n
 induction n with
 | zero => intro a0 a1 a2 a3 r h; cases h
 | succ n ih =>
  intro a0 a1 a2 a3
  refine bnd_le (LeO.rfl (ientries a0 a1)) fun r2 => ?_
  refine bnd_le (LeO.rfl _) fun r => elim_le (fun _ => ?_) (fun _ => LeO.rfl _) r
  refine bnd_le (lp_le (fun s => ?_) _) fun r => elim_le (fun _ => LeO.rfl _) (fun _ => LeO.rfl _) r
  refine cond_le (bnd_le (LeO.rfl _) fun y => cond_le (LeO.rfl _) (bnd_le (LeO.rfl _) fun y2 => cond_le (LeO.rfl _) (bnd_le (LeO.rfl _) fun y3 => cond_le (LeO.rfl _) ?_))) (LeO.rfl _)
  refine bnd_le (LeO.rfl _) fun r => elim_le (fun _ => ?_) (fun _ => LeO.rfl _) r
  exact cond_le (bnd_le (ih _ _ _ _) fun _ => LeO.rfl _) (LeO.rfl _)
theorem sl9Seen_up : ∀ (n : Nat) (a0 : FsD) (a1 a2 : Int) (a3 : List Int), LeO (sl9SeenN n a0 a1 a2 a3) (sl9SeenN (n + 1) a0 a1 a2 a3) := by
 intro n
 induction n with
 | zero => intro a0 a1 a2 a3 r h; cases h
 | succ n ih =>
  intro a0 a1 a2 a3
  refine ck_le (P := Room (plus 0 (ln a3)) 8) (bnd_le (LeO.rfl (gt a3 a1)) fun y2 => cond_le (LeO.rfl _) (cond_le (LeO.rfl _) (bnd_le (LeO.rfl _) fun y5 => cond_le (LeO.rfl _) (bnd_le (LeO.rfl _) fun r7 => cond_le ?_ (LeO.rfl _)))))
  refine bnd_le (lp_le (fun s => ?_) _) fun r => elim_le (fun _ => LeO.rfl _) (fun _ => LeO.rfl _) r
  refine cond_le (bnd_le (LeO.rfl _) fun y => cond_le (LeO.rfl _) (bnd_le (LeO.rfl _) fun y2 => cond_le (LeO.rfl _) ?_)) (LeO.rfl _)
  refine bnd_le (LeO.rfl _) fun r => elim_le (fun _ => ?_) (fun _ => LeO.rfl _) r
  exact bnd_le (ih _ _ _ _) fun _ => LeO.rfl _
/-! ### spec.l9Seen -/
theorem s_seen {f : FsD} (hs : ShapeOk f) : ∀ (k : Nat) (i d : Nat) (n : NodeD) (u w : List Int) (y : Int), d ≤ 5 → 6 ≤ k + d → f.nodes[i]? = some n → ¬ n.kind = 0 → u.length ≤ 10 → u[i]? = some y → (y = 0 ∨ y = 1) → (y = 0 → SeenOk f w ∧ u.set i 1 = w.set 0 1) →
  Wp (fun r : List Int × Bool => (∃ t, (if y = 1 ∨ 4 < d then none else if n.kind = 2 then vis f k (i : Int) d w else some w) = some t ∧ r = (t.set 0 1, true) ∧ SeenOk f t) ∨ ((if y = 1 ∨ 4 < d then none else if n.kind = 2 then vis f k (i : Int) d w else some w) = none ∧ r.2 = false)) (sl9SeenN k f (i : Int) (d : Int) u) := by
 intro k
 induction k with
 | zero => intro i d n u w y h1 h2; omega
 | succ k ih =>
  intro i d n u w y hd hk hn hnk hul hy hy01 hw
  rw [sl9SeenN]
  simp only [PN]
  refine wp_ck (room (by omega) (by omega)) ?_
  rw [gt_ok hy, bsome, iadd (a := y) (by omega)]
  refine wp_if (fun h1 => wp_some (.inr ⟨by rw [if_pos (.inl (by omega))], rfl⟩)) (fun h1 => ?_)
  have hy0 : y = 0 := by omega
  subst hy0
  obtain ⟨hW, hset⟩ := hw rfl
  have hsl : sl u (i : Int) (0 + 1) = w.set 0 1 := by rw [sl_eq, Int.toNat_natCast]; exact hset
  rw [hsl]
  refine wp_if (fun h4 => wp_some (.inr ⟨by rw [if_pos (.inr (by omega))], rfl⟩)) (fun h4 => ?_)
  rw [if_neg (by omega), gt_ok hn, bsome]
  refine wp_if (fun h2 => wp_some (.inl ⟨w, by rw [if_neg h2], rfl, hW⟩)) (fun h2 => ?_)
  have h2 := Classical.not_not.1 h2
  rw [if_pos h2, s_l9Dir hs hn h2, bsome]
  have hv := vis_succ f k (i : Int) d w
  rw [Int.toNat_natCast, getD_get hn] at hv
  rcases hD : dirAt f n with ⟨l, ok⟩
  rw [hD] at hv
  dsimp only at hv ⊢
  cases ok with
  | false =>
   rw [if_pos (.inl rfl)] at hv
   simp only [cond_false]
   exact wp_some (.inr ⟨hv, rfl⟩)
  | true =>
   have hE := dirOf_ok hD
   have hl9 := hE.n80
   have hn10 := hs.n1
   simp only [cond_true, bite, bsome, Sum.elim_inl, Sum.elim_inr]
   generalize hV : vis f (k + 1) (i : Int) d w = V at *
   have start : ∀ (t : List Int) (e : EntryD) (j : Nat), SeenOk f t → l[j]? = some e → ∀ m : NodeD, f.nodes[e.node.toNat]? = some m → ¬ m.kind = 0 →
     ∃ x, t[e.node.toNat]? = some x ∧ Wp (fun r : List Int × Bool => (∃ t', (if x = 1 ∨ 4 < d + 1 then none else if m.kind = 2 then vis f k e.node (d + 1) (t.set e.node.toNat 1) else some (t.set e.node.toNat 1)) = some t' ∧ r = (t'.set 0 1, true) ∧ SeenOk f t') ∨
      ((if x = 1 ∨ 4 < d + 1 then none else if m.kind = 2 then vis f k e.node (d + 1) (t.set e.node.toNat 1) else some (t.set e.node.toNat 1)) = none ∧ r.2 = false)) (sl9SeenN k f e.node (iop .add .i64 (d : Int) 1) (t.set 0 1)) := by
    intro t e j hT he m hm hz
    have hen := (hE.all j e he).1.2.1
    have hlt := len_lt hm
    obtain ⟨x, hx⟩ := get_some (l := t) (i := e.node.toNat) (by rw [hT.len]; exact hlt)
    refine ⟨x, hx, ?_⟩
    have hrec := ih e.node.toNat (d + 1) m (t.set 0 1) (t.set e.node.toNat 1) x (by omega) (by omega) hm hz (by simp; rw [hT.len]; omega) (by rw [List.getElem?_set_ne (by omega)]; exact hx) (hT.bit _ _ hx)
     (fun _ => ⟨hT.set hm hz, List.set_comm _ _ (by omega)⟩)
    rw [Int.toNat_of_nonneg (by omega)] at hrec
    rw [ir_add1 (show d < 4611686018427387904 by omega)]
    exact hrec
   by_cases hc : d = 4 ∧ ¬ l = []
   ·rw [if_pos (.inr hc)] at hv
    refine wp_loop (fun x => 0) (fun x => x = (w.set 0 1, 0)) (fun r => ∃ q : List Int × Bool, r = .inr q ∧ q.2 = false) rfl ?_ ?_
    ·rintro _ rfl
     dsimp only
     have hl0 : 0 < l.length := by
      cases l with
      | nil => exact absurd rfl hc.2
      | cons _ _ => simp
     refine wp_if (fun _ => ?_) (fun hj => absurd hj (by omega))
     obtain ⟨e, he⟩ := get_some hl0
     have hen := (hE.all 0 e he).1.2.1
     rw [gt0 he, bsome]
     refine wp_if (fun hge => wp_out ⟨_, rfl, rfl⟩) (fun hlt => ?_)
     obtain ⟨m, hm⟩ := get_some (l := f.nodes) (i := e.node.toNat) (by omega)
     rw [gtI (by omega) hm, bsome]
     refine wp_if (fun hz => wp_out ⟨_, rfl, rfl⟩) (fun hz => ?_)
     obtain ⟨x, hx, hrec⟩ := start w e 0 hW he m hm hz
     rw [if_pos (.inr (by omega))] at hrec
     have fin : Wp (LpO (fun x : List Int × Int => 0) (fun x => x = (w.set 0 1, 0)) (fun r : (List Int) ⊕ (List Int × Bool) => ∃ q : List Int × Bool, r = .inr q ∧ q.2 = false) (w.set 0 1, 0))
       (bnd (sl9SeenN k f e.node (iop .add .i64 (d : Int) 1) (w.set 0 1)) fun r50 => cond r50.2 (some (.inl (r50.1, iop .add .i64 0 1))) (some (.inr (.inr (w.set 0 1, false))))) := by
      refine wp_bnd _ hrec ?_
      rintro ⟨t', b⟩ (⟨_, q1, _⟩ | ⟨_, q2⟩)
      ·cases q1
      ·dsimp only at q2
       subst q2
       exact wp_out ⟨_, rfl, rfl⟩
     exact wp_if (fun _ => wp_if (fun _ => wp_out ⟨_, rfl, rfl⟩) (fun _ => wp_if (fun _ => wp_out ⟨_, rfl, rfl⟩) (fun _ => fin))) (fun _ => fin)
    ·rintro r ⟨q, rfl, q2⟩
     exact wp_some (.inr ⟨hv, q2⟩)
   ·rw [if_neg (by simpa using hc)] at hv
    refine wp_loop (fun x => l.length - x.2.toNat) (fun x => ∃ (j : Nat) (t : List Int), x = (t.set 0 1, (j : Int)) ∧ j ≤ l.length ∧ SeenOk f t ∧ V = foldE (visE (vis f k) f (i : Int) d) (l.drop j) t)
     (fun r => (∃ t, r = .inl (t.set 0 1) ∧ V = some t ∧ SeenOk f t) ∨ ∃ q : List Int × Bool, r = .inr q ∧ V = none ∧ q.2 = false)
     ⟨0, w, rfl, by omega, hW, by rw [hv, List.drop_zero]⟩ ?_ ?_
    ·rintro _ ⟨j, t, rfl, h6, h7, h8⟩
     dsimp only
     refine wp_if (fun hj => ?_) (fun hj => wp_out (.inl ⟨t, rfl, by rw [h8, List.drop_eq_nil_of_le (by omega)]; rfl, h7⟩))
     obtain ⟨e, he⟩ := get_some (l := l) (i := j) (by omega)
     have hen := (hE.all j e he).1.2.1
     have hd3 : d ≤ 3 := by
      have : ¬ d = 4 := fun h4 => hc ⟨h4, fun hl => by rw [hl] at he; simp at he⟩
      omega
     rw [foldE_step he] at h8
     have hno : visE (vis f k) f (i : Int) d t e = none → V = none := fun h => by rw [h8, h]; rfl
     rw [gt_ok he, bsome]
     refine wp_if (fun hge => wp_out (.inr ⟨_, rfl, hno (by unfold visE; rw [if_pos (.inl hge)]), rfl⟩)) (fun hlt => ?_)
     obtain ⟨m, hm⟩ := get_some (l := f.nodes) (i := e.node.toNat) (by omega)
     rw [gtI (by omega) hm, bsome]
     refine wp_if (fun hz => wp_out (.inr ⟨_, rfl, hno (by unfold visE; rw [if_pos (.inr (.inl (by rw [getD_get hm]; exact hz)))]), rfl⟩)) (fun hz => ?_)
     obtain ⟨x, hx, hrec⟩ := start t e j h7 he m hm hz
     have hx01 := h7.bit _ _ hx
     have hve1 : 0 < x → visE (vis f k) f (i : Int) d t e = none := fun hp => by unfold visE; rw [if_pos (.inr (.inr (by rw [at_get hx]; exact hp)))]
     by_cases hh : e.name = [126] ∧ (¬ (i : Int) = 0 ∨ ¬ m.kind = 1)
     ·have bad : V = none := by
       by_cases hp : 0 < x
       ·exact hno (hve1 hp)
       ·refine hno ?_
        unfold visE
        rw [if_neg, getD_get hm, if_pos hh]
        rw [getD_get hm, at_get hx]
        rintro (h | h | h)
        ·exact hlt h
        ·exact hz h
        ·exact hp h
      exact wp_if (fun h126 => wp_if (fun _ => wp_out (.inr ⟨_, rfl, bad, rfl⟩)) (fun hi0 => wp_if (fun _ => wp_out (.inr ⟨_, rfl, bad, rfl⟩)) (fun hk1 => (hh.2.elim (absurd · hi0) (absurd · hk1))))) (fun h126 => absurd hh.1 h126)
     ·rw [if_skip2 hh]
      have hve : visE (vis f k) f (i : Int) d t e = (if x = 1 ∨ 4 < d + 1 then none else if m.kind = 2 then vis f k e.node (d + 1) (t.set e.node.toNat 1) else some (t.set e.node.toNat 1)) := by
       by_cases hp : 0 < x
       ·rw [hve1 hp, if_pos (.inl (by omega))]
       ·rw [if_neg (by omega)]
        unfold visE
        rw [if_neg, getD_get hm, if_neg hh]
        rw [getD_get hm, at_get hx]
        rintro (h | h | h)
        ·exact hlt h
        ·exact hz h
        ·exact hp h
      rw [← hve] at hrec
      refine wp_bnd _ hrec ?_
      rintro ⟨t', b⟩ (⟨t2, q1, q2, q3⟩ | ⟨q1, q2⟩)
      ·injection q2 with q2 q4
       subst q2 q4
       simp only [cond_true]
       exact wp_back ⟨j + 1, t2, by rw [ir_add1 (by omega)], by omega, q3, by rw [h8, q1]; rfl⟩ (by dsimp only; rw [ir_add1 (by omega)]; omega)
      ·dsimp only at q2
       subst q2
       simp only [cond_false]
       exact wp_out (.inr ⟨_, rfl, hno q1, rfl⟩)
    ·rintro r (⟨t, rfl, q1, q2⟩ | ⟨q, rfl, q1, q2⟩)
     ·exact wp_some (.inl ⟨t, q1, rfl, q2⟩)
     ·exact wp_some (.inr ⟨q1, q2⟩)
end Go.Ar
end
section
namespace Go.Ar
open Go.Proofs
set_option linter.unusedVariables false
set_option linter.unusedSimpArgs false
set_option maxRecDepth 20000
/-! ### File systems that are well formed -/
theorem wp_rc {α : Type} {g : Nat → Option α} {P : α → Prop} (hm : ∀ n, LeO (g n) (g (n + 1))) {n : Nat} (h : Wp P (g n)) : Wp P (rc g) := by
 obtain ⟨r, h1, h2⟩ := h
 exact ⟨r, rc_in (fun n r h => hm n r h) h1, h2⟩
def zer (n : Nat) : List Int := List.replicate n 0
theorem seen_zer (f : FsD) : SeenOk f (zer f.nodes.length) := by
 refine ⟨by simp [zer], fun k x h => ?_, fun k n h _ => ?_⟩
 ·unfold zer at h
  rw [List.getElem?_replicate] at h
  split at h
  ·injection h with h; exact .inl h.symm
  ·cases h
 ·unfold zer
  rw [List.getElem?_replicate, if_pos (len_lt h)]
def AllSeen (f : FsD) (t : List Int) : Prop := ∀ (i : Nat) (n : NodeD), f.nodes[i]? = some n → 0 < i → ¬ n.kind = 0 → t[i]? = some 1
def FsOk (f : FsD) : Prop := ShapeOk f ∧ ∃ t, vis f 6 0 0 (zer f.nodes.length) = some t ∧ AllSeen f t
theorem rp_zer (n : Nat) : rp (n : Int) (0 : Int) = zer n := by rw [rp_eq, Int.toNat_natCast]; rfl
theorem i_FsOk (f : FsD) : iFsOk f = some (tb (FsOk f)) := by
 refine wp_eq ?_
 unfold iFsOk
 simp only [i_ShapeOk, PN, rp_zer]
 refine wp_if (fun hs => ?_) (fun hs => wp_no fun h => hs h.1)
 have hn := hs.n1
 refine wp_ck (ins (by omega)) (wp_ck (room (by omega) (by omega)) ?_)
 obtain ⟨n0, hn0⟩ := get_some (l := f.nodes) (i := 0) (by omega)
 refine wp_bnd _ (wp_rc (fun n => ivisit_up n f 0 0 _) (i_visit hs 6 0 0 n0 _ (by omega) (by omega) hn0 (seen_zer f))) ?_
 rintro r (⟨t, h1, rfl, h2⟩ | ⟨h1, h2⟩)
 ·simp only [cond_true]
  have ok : ∀ Q : Prop, (Q ↔ AllSeen f t) → Wp (fun r => r = tb (FsOk f)) (some (tb Q)) := fun Q hQ =>
   wp_some (tb_congr ⟨fun q => ⟨hs, t, h1, hQ.1 q⟩, fun h => by
    obtain ⟨_, t', e, h'⟩ := h
    have h1 : vis f 6 0 0 (zer f.nodes.length) = some t := h1
    rw [h1] at e; cases e
    exact hQ.2 h'⟩)
  refine wp_loop (fun s => f.nodes.length - s.toNat) (fun s => ∃ i : Nat, s = (i : Int) ∧ i ≤ f.nodes.length ∧ ∀ (j : Nat) (n : NodeD), j < i → f.nodes[j]? = some n → 0 < j → ¬ n.kind = 0 → t[j]? = some 1)
   (fun r => (r = .inl () ∧ AllSeen f t) ∨ (r = .inr false ∧ ¬ AllSeen f t)) ⟨0, rfl, by omega, fun j n hj => by omega⟩ ?_ ?_
  ·rintro _ ⟨i, rfl, h3, h4⟩
   refine wp_if (fun hi => ?_) (fun hi => wp_out (.inl ⟨rfl, fun j n hj => h4 j n (by have := len_lt hj; omega) hj⟩))
   obtain ⟨n, hni⟩ := get_some (l := f.nodes) (i := i) (by omega)
   rw [gt_ok hni, bsome]
   have next : (0 < i → ¬ n.kind = 0 → t[i]? = some 1) → Wp (LpO (fun s : Int => f.nodes.length - s.toNat) (fun s => ∃ i : Nat, s = (i : Int) ∧ i ≤ f.nodes.length ∧ ∀ (j : Nat) (n : NodeD), j < i → f.nodes[j]? = some n → 0 < j → ¬ n.kind = 0 → t[j]? = some 1)
     (fun r : Unit ⊕ Bool => (r = .inl () ∧ AllSeen f t) ∨ (r = .inr false ∧ ¬ AllSeen f t)) (i : Int)) (some (.inl (iop .add .i64 (i : Int) 1))) := fun h => by
    refine wp_back ⟨i + 1, ir_add1 (by omega), by omega, fun j m hj hm => ?_⟩ (by rw [ir_add1 (by omega)]; omega)
    by_cases e : j = i
    ·subst e
     rw [hni] at hm; cases hm
     exact h
    ·exact h4 j m (by omega) hm
   refine wp_if (fun h0 => wp_if (fun hk => ?_) (fun hk => next fun _ h => absurd h hk)) (fun h0 => next fun h _ => absurd h (by omega))
   obtain ⟨x, hx⟩ := get_some (l := t) (i := i) (by rw [h2.len]; omega)
   rw [gt_ok hx, bsome]
   exact wp_if (fun hx1 => wp_out (.inr ⟨rfl, fun h => hx1 (by have := h i n hni (by omega) hk; rw [hx] at this; cases this; rfl)⟩)) (fun hx1 => next fun _ _ => by rw [hx, Classical.not_not.1 hx1])
  ·rintro r (⟨rfl, h⟩ | ⟨rfl, h⟩)
   ·have := ok True (iff_of_true trivial h)
    rwa [tb_true] at this
   ·have := ok False (iff_of_false id h)
    rwa [tb_false] at this
 ·skip
  rw [h2]
  simp only [cond_false]
  refine wp_no fun h => ?_
  obtain ⟨_, t, e, _⟩ := h
  have h1 : vis f 6 0 0 (zer f.nodes.length) = none := h1
  rw [h1] at e; cases e
theorem s_FsOk (f : FsD) : sFsOk f = some (tb (FsOk f)) := by
 refine wp_eq ?_
 unfold sFsOk
 simp only [s_ShapeOk, PN, rp_zer]
 refine wp_if (fun hs => ?_) (fun hs => wp_no fun h => hs h.1)
 have hn := hs.n1
 refine wp_ck (ins (by omega)) (wp_ck (room (by omega) (by omega)) ?_)
 obtain ⟨n0, hn0⟩ := get_some (l := f.nodes) (i := 0) (by omega)
 have hk0 := hs.root n0 hn0
 have hz0 : (zer f.nodes.length)[0]? = some 0 := by
  unfold zer
  rw [List.getElem?_replicate, if_pos (len_lt hn0)]
 refine wp_bnd _ (wp_rc (fun n => sl9Seen_up n f 0 0 _) (s_seen hs 6 0 0 n0 _ (zer f.nodes.length) 0 (by omega) (by omega) hn0 (by omega) (by simp [zer]; omega) hz0 (.inl rfl) (fun _ => ⟨seen_zer f, rfl⟩))) ?_
 rw [if_neg (by omega), if_pos hk0]
 rintro r (⟨t, h1, rfl, h2⟩ | ⟨h1, h2⟩)
 ·simp only [cond_true]
  have ok : ∀ Q : Prop, (Q ↔ AllSeen f t) → Wp (fun r => r = tb (FsOk f)) (some (tb Q)) := fun Q hQ =>
   wp_some (tb_congr ⟨fun q => ⟨hs, t, h1, hQ.1 q⟩, fun h => by
    obtain ⟨_, t', e, h'⟩ := h
    have h1 : vis f 6 0 0 (zer f.nodes.length) = some t := h1
    rw [h1] at e; cases e
    exact hQ.2 h'⟩)
  refine wp_loop (fun s => f.nodes.length - s.toNat) (fun s => ∃ i : Nat, s = (i : Int) ∧ i ≤ f.nodes.length ∧ ∀ (j : Nat) (n : NodeD), j < i → f.nodes[j]? = some n → 0 < j → ¬ n.kind = 0 → t[j]? = some 1)
   (fun r => (r = .inl () ∧ AllSeen f t) ∨ (r = .inr false ∧ ¬ AllSeen f t)) ⟨0, rfl, by omega, fun j n hj => by omega⟩ ?_ ?_
  ·rintro _ ⟨i, rfl, h3, h4⟩
   refine wp_if (fun hi => ?_) (fun hi => wp_out (.inl ⟨rfl, fun j n hj => h4 j n (by have := len_lt hj; omega) hj⟩))
   obtain ⟨n, hni⟩ := get_some (l := f.nodes) (i := i) (by omega)
   obtain ⟨x, hx⟩ := get_some (l := t) (i := i) (by rw [h2.len]; omega)
   have hx01 := h2.bit i x hx
   have hfree := h2.free i n hni
   rw [hx] at hfree
   have hg : gt (t.set 0 1) (i : Int) = some (if i = 0 then 1 else x) := by
    refine gt_ok ?_
    by_cases e : i = 0
    ·subst e
     rw [List.getElem?_set_self (by have := h2.len; omega)]; rfl
    ·rw [List.getElem?_set_ne (by omega), hx, if_neg e]
   rw [hg, gt_ok hni, bsome, bsome]
   have next : (0 < i → ¬ n.kind = 0 → t[i]? = some 1) → Wp (LpO (fun s : Int => f.nodes.length - s.toNat) (fun s => ∃ i : Nat, s = (i : Int) ∧ i ≤ f.nodes.length ∧ ∀ (j : Nat) (n : NodeD), j < i → f.nodes[j]? = some n → 0 < j → ¬ n.kind = 0 → t[j]? = some 1)
     (fun r : Unit ⊕ Bool => (r = .inl () ∧ AllSeen f t) ∨ (r = .inr false ∧ ¬ AllSeen f t)) (i : Int)) (some (.inl (iop .add .i64 (i : Int) 1))) := fun h => by
    refine wp_back ⟨i + 1, ir_add1 (by omega), by omega, fun j m hj hm => ?_⟩ (by rw [ir_add1 (by omega)]; omega)
    by_cases e : j = i
    ·subst e
     rw [hni] at hm; cases hm
     exact h
    ·exact h4 j m (by omega) hm
   by_cases e : i = 0
   ·subst e
    rw [if_pos rfl]
    rw [hn0] at hni; cases hni
    exact wp_if (fun _ => wp_if (fun _ => next fun h => absurd h (by omega)) (fun h => absurd hk0 (by omega))) (fun h => absurd rfl h)
   ·rw [if_neg e]
    refine wp_if (fun h1 => wp_if (fun _ => next fun _ _ => by rw [hx, h1]) (fun h => ?_)) (fun h1 => wp_if (fun h => wp_out (.inr ⟨rfl, fun ha => h1 (by have := ha i n hni (by omega) h; rw [hx] at this; cases this; rfl)⟩)) (fun h => next fun _ hk => absurd hk h))
    have := hfree (Classical.not_not.1 h)
    injection this with this
    omega
  ·rintro r (⟨rfl, h⟩ | ⟨rfl, h⟩)
   ·have := ok True (iff_of_true trivial h)
    rwa [tb_true] at this
   ·have := ok False (iff_of_false id h)
    rwa [tb_false] at this
 ·skip
  rw [h2]
  simp only [cond_false]
  refine wp_no fun h => ?_
  obtain ⟨_, t, e, _⟩ := h
  have h1 : vis f 6 0 0 (zer f.nodes.length) = none := h1
  rw [h1] at e; cases e
end Go.Ar
end
section
namespace Go.Ar
open Go.Proofs
set_option linter.unusedVariables false
set_option linter.unusedSimpArgs false
set_option maxRecDepth 20000
/-! ### The head of a journal -/
def readN : Nat → List UInt8 → Nat → Option (List Int × Nat)
 | 0, _, p => some ([], p)
 | k + 1, b, p => (match getN 5 0 0 (b.drop p) with | some (m, c) => (readN k b (p + c)).map (fun r => ((m : Int) :: r.1, r.2)) | none => none)
def putsOf (l : List Int) : List PutD := l.map fun a => ⟨a, []⟩
def be4 (l : List UInt8) : Nat := l.foldl (fun a y => a * 256 + y.toNat) 0
open Classical in
noncomputable def headC (s : List UInt8) (n : Int) (c k : Nat) : List Int × Int × Bool :=
 match readN c s (1 + k) with
 | some (ats, e) => if s.length = e + 4 ∧ TxOk n (putsOf ats) then (ats, ((be4 (s.drop e) : Nat) : Int), true) else ([], 0, false)
 | none => ([], 0, false)
open Classical in
noncomputable def headOf (s : List UInt8) (n : Int) : List Int × Int × Bool :=
 match getN 5 0 0 (s.drop 1) with
 | some (c, k) => if (s.getD 0 0).toNat = 74 ∧ c ≤ 48 then headC s n c k else ([], 0, false)
 | none => ([], 0, false)
theorem readN_ge : ∀ (k : Nat) (b : List UInt8) (p : Nat) (l : List Int) (e : Nat), readN k b p = some (l, e) → l.length = k ∧ p + k ≤ e
 | 0, b, p, l, e, h => by simp only [readN] at h; injection h with h; injection h with h1 h2; subst h1 h2; exact ⟨rfl, by omega⟩
 | k + 1, b, p, l, e, h => by
  simp only [readN] at h
  cases hg : getN 5 0 0 (b.drop p) with
  | none => rw [hg] at h; cases h
  | some mc =>
   obtain ⟨m, c⟩ := mc
   rw [hg] at h
   dsimp only at h
   have hc := (getN_some hg).2.1
   cases hr : readN k b (p + c) with
   | none => rw [hr] at h; cases h
   | some le =>
    obtain ⟨l', e'⟩ := le
    rw [hr] at h
    obtain ⟨h1, h2⟩ := readN_ge k b _ l' e' hr
    simp only [Option.map_some] at h
    injection h with h
    injection h with h3 h4
    subst h3 h4
    exact ⟨by simp [h1], by omega⟩
theorem readN_step {k : Nat} {b : List UInt8} {p m c : Nat} {f : List Int × Nat → List Int × Nat} (hg : getN 5 0 0 (b.drop p) = some (m, c)) : (readN (k + 1) b p).map f = (readN k b (p + c)).map (fun r => f ((m : Int) :: r.1, r.2)) := by
 simp only [readN, hg, Option.map_map]; rfl
theorem n_shl8 {m : Nat} (hm : m < 16777216) : iop .shl .i64 (m : Int) 8 = ((m * 256 : Nat) : Int) := by
 rw [iop_eq]
 show IntKind.i64.wrap ((m : Int) * 2 ^ (min (8 : Int).toNat 64)) = _
 rw [show min (8 : Int).toNat 64 = 8 from rfl, w64 (by omega)]
 omega
theorem n_or8 {m : Nat} (hm : m < 16777216) (y : UInt8) : iop .or .i64 ((m * 256 : Nat) : Int) ((y.toNat : Nat) : Int) = ((m * 256 + y.toNat : Nat) : Int) := by
 have hy := y.toNat_lt
 rw [iop_eq]
 show IntKind.i64.wrap ((BitVec.ofInt 64 ((m * 256 : Nat) : Int) ||| BitVec.ofInt 64 ((y.toNat : Nat) : Int)).toNat : Int) = _
 have e : (BitVec.ofInt 64 ((m * 256 : Nat) : Int) ||| BitVec.ofInt 64 ((y.toNat : Nat) : Int)).toNat = m * 256 + y.toNat := by
  rw [BitVec.toNat_or]
  have e1 : (BitVec.ofInt 64 ((m * 256 : Nat) : Int)).toNat = m * 256 := by rw [BitVec.toNat_ofInt]; omega
  have e2 : (BitVec.ofInt 64 ((y.toNat : Nat) : Int)).toNat = y.toNat := by rw [BitVec.toNat_ofInt]; omega
  have := Nat.two_pow_add_eq_or_of_lt (i := 8) (b := y.toNat) (by omega) m
  rw [e1, e2, Nat.mul_comm m]
  rw [show (256 : Nat) = 2 ^ 8 from rfl, ← this]
 rw [e, w64 (by omega)]
theorem be_lt : ∀ (l : List UInt8) (k : Nat) (a : Nat), l.length ≤ k → k ≤ 3 → a < 256 ^ (3 - k) → l.foldl (fun a y => a * 256 + y.toNat) a < 16777216
 | [], k, a, h, hk, ha => by
  have : 256 ^ (3 - k) ≤ 256 ^ 3 := Nat.pow_le_pow_right (by decide) (by omega)
  simp only [List.foldl_nil]; omega
 | y :: l, 0, a, h, hk, ha => by simp at h
 | y :: l, k + 1, a, h, hk, ha => by
  have hy := y.toNat_lt
  rw [List.foldl_cons]
  refine be_lt l k _ (by simpa using h) (by omega) ?_
  rw [show 3 - k = (3 - (k + 1)) + 1 by omega, Nat.pow_succ]
  omega
theorem be4_pre {l : List UInt8} {i : Nat} (h : i ≤ 3) : be4 (l.take i) < 16777216 := be_lt (l.take i) 3 0 (by simp; omega) (by omega) (by decide)
theorem be4_snoc {l : List UInt8} {i : Nat} {y : UInt8} (h : l[i]? = some y) : be4 (l.take (i + 1)) = be4 (l.take i) * 256 + y.toNat := by unfold be4; rw [take_foldl _ h]
theorem tx_ne {n : Int} {l : List PutD} (h : TxOk n l) : 1 ≤ l.length := by
 have := h.ne
 cases l with
 | nil => exact absurd rfl this
 | cons _ _ => simp
theorem i_HeadOf (s : List UInt8) (n : Int) (hs : s.length ≤ 1000) : iHeadOf s n = some (headOf s n) := by
 refine wp_eq ?_
 unfold iHeadOf
 simp only [i_GetNum s _ (show s.length ≤ 1000000 by omega), PN, n_byte]
 refine wp_ck (room (by omega) (by omega)) ?_
 have bad : ∀ (h : ∀ c k, getN 5 0 0 (s.drop 1) = some (c, k) → (s.getD 0 0).toNat = 74 → c ≤ 48 → headC s n c k = ([], 0, false)), Wp (fun r => r = headOf s n) (some ([], 0, false)) := fun h => by
  refine wp_some ?_
  unfold headOf
  cases hg : getN 5 0 0 (s.drop 1) with
  | none => rfl
  | some ck =>
   obtain ⟨c, k⟩ := ck
   dsimp only
   split
   ·rename_i hh; exact (h c k hg hh.1 hh.2).symm
   ·rfl
 have badC : ∀ c k, (∀ ats e, readN c s (1 + k) = some (ats, e) → ¬ (s.length = e + 4 ∧ TxOk n (putsOf ats))) → headC s n c k = ([], 0, false) := fun c k h => by
  unfold headC
  cases hr : readN c s (1 + k) with
  | none => rfl
  | some r =>
   obtain ⟨ats, e⟩ := r
   dsimp only
   rw [if_neg (h ats e hr)]
 refine wp_if (fun h5 => bad fun c k _ _ _ => badC c k fun ats e hr hh => ?_) (fun h5 => ?_)
 ·obtain ⟨h1, h2⟩ := readN_ge _ _ _ _ _ hr
  have h3 := tx_ne hh.2
  simp only [putsOf, List.length_map] at h3
  omega
 obtain ⟨y, hy⟩ := get_some (l := s) (i := 0) (by omega)
 have hyD : s.getD 0 0 = y := by rw [List.getD_eq_getElem?_getD, hy]; rfl
 rw [gt0 hy, bsome, b2i_eq]
 refine wp_if (fun h74 => bad fun c k _ h _ => absurd h (by rw [hyD]; omega)) (fun h74 => ?_)
 cases hg : getN 5 0 0 (s.drop 1) with
 | none =>
  rw [show getNum s 1 = _ from getNum_no (p := 1) hg]
  exact bad fun c k h => by rw [hg] at h; cases h
 | some ck =>
  obtain ⟨c, k⟩ := ck
  obtain ⟨g1, g2, g3, g4⟩ := getN_some hg
  rw [List.length_drop] at g3
  rw [show getNum s 1 = _ from getNum_of (p := 1) hg]
  simp only [cond_true]
  refine wp_if (fun hc => bad fun c' k' h _ h2 => by rw [hg] at h; cases h; omega) (fun hc => ?_)
  have hH : headOf s n = headC s n c k := by
   unfold headOf
   rw [hg]
   dsimp only
   rw [if_pos ⟨by rw [hyD]; omega, by omega⟩]
  rw [hH]
  refine wp_loop (fun x => c - x.2.2.2.toNat) (fun x => ∃ (i p : Nat) (ats : List Int), x = ((p : Int), putsOf ats, ats, (i : Int)) ∧ i ≤ c ∧ ats.length = i ∧ p ≤ s.length ∧ readN c s (1 + k) = (readN (c - i) s p).map (fun r => (ats ++ r.1, r.2)))
   (fun r => (∃ (p : Nat) (ats : List Int), r = .inl ((p : Int), putsOf ats, ats) ∧ p ≤ s.length ∧ ats.length = c ∧ readN c s (1 + k) = some (ats, p)) ∨ (r = .inr ([], 0, false) ∧ readN c s (1 + k) = none)) ⟨0, 1 + k, [], rfl, by omega, rfl, by omega, by simp⟩ ?_ ?_
  ·rintro _ ⟨i, p, ats, rfl, h1, h2, h3, h4⟩
   dsimp only
   refine wp_if (fun hi => ?_) (fun hi => wp_out (.inl ⟨p, ats, rfl, h3, by omega, by rw [h4, show c - i = 0 by omega]; simp [readN]⟩))
   cases hg2 : getN 5 0 0 (s.drop p) with
   | none =>
    rw [getNum_no hg2]
    exact wp_out (.inr ⟨rfl, by rw [h4, show c - i = (c - i - 1) + 1 by omega]; simp [readN, hg2]⟩)
   | some mk =>
    obtain ⟨m, k2⟩ := mk
    obtain ⟨j1, j2, j3, j4⟩ := getN_some hg2
    rw [List.length_drop] at j3
    rw [getNum_of hg2]
    simp only [cond_true]
    refine wp_ck (room (by omega) (by simp [putsOf]; omega)) (wp_ck (room (by omega) (by omega)) ?_)
    refine wp_back ⟨i + 1, p + k2, ats ++ [(m : Int)], ?_, by omega, by simp; omega, by omega, ?_⟩ (by dsimp only; rw [ir_add1 (by omega)]; omega)
    ·rw [ir_add1 (by omega)]
     simp [putsOf]
    ·rw [h4, show c - i = (c - (i + 1)) + 1 by omega, readN_step hg2]
     simp
  ·rintro r (⟨p, ats, rfl, h1, h2, h3⟩ | ⟨rfl, h3⟩)
   ·rw [Sum.elim_inl]
    dsimp only
    rw [iadd (a := (p : Int)) (by omega)]
    refine wp_if (fun hl => wp_some (badC c k fun ats' e hr hh => by rw [h3] at hr; cases hr; omega).symm) (fun hl => ?_)
    rw [i_TxOk _ _ (by simp [putsOf]; omega)]
    simp only [PN]
    refine wp_if (fun hT => ?_) (fun hT => wp_some (badC c k fun ats' e hr hh => by rw [h3] at hr; cases hr; exact hT hh.2).symm)
    have hsb : sb s (p : Int) (s.length : Int) = s.drop p := by
     rw [sb_eq, List.take_of_length_le (by simp), Int.toNat_natCast]
    rw [ck_in (ins (by omega)), hsb]
    have hd : (s.drop p).length = 4 := by rw [List.length_drop]; omega
    refine wp_loop (fun x => 4 - x.2.toNat) (fun x => ∃ i : Nat, x = (((be4 ((s.drop p).take i) : Nat) : Int), (i : Int)) ∧ i ≤ 4) (fun r => r = ((be4 (s.drop p) : Nat) : Int)) ⟨0, rfl, by omega⟩ ?_ ?_
    ·rintro _ ⟨i, rfl, hi⟩
     dsimp only
     refine wp_if (fun hi2 => ?_) (fun hi2 => wp_out (by rw [List.take_of_length_le (by omega)]))
     obtain ⟨x, hx⟩ := get_some (l := s) (i := p + i) (by omega)
     have hx' : (s.drop p)[i]? = some x := by rw [List.getElem?_drop]; exact hx
     refine wp_ck (tb_pos (by omega)) (wp_ck (by rw [InR_eq]; omega) ?_)
     rw [show (p : Int) + (i : Int) = ((p + i : Nat) : Int) by omega, gt_ok hx, bsome, n_shl8 (be4_pre (by omega)), n_or8 (be4_pre (by omega)), ← be4_snoc hx']
     exact wp_back ⟨i + 1, by rw [ir_add1 (by omega)], by omega⟩ (by dsimp only; rw [ir_add1 (by omega)]; omega)
    ·rintro r rfl
     refine wp_some ?_
     unfold headC
     rw [h3]
     dsimp only
     rw [if_pos ⟨by omega, hT⟩]
   ·refine wp_some ?_
    unfold headC
    rw [h3]
theorem s_HeadOf (s : List UInt8) (n : Int) (hs : s.length ≤ 1000) : sHeadOf s n = some (headOf s n) := by
 refine wp_eq ?_
 unfold sHeadOf
 simp only [s_GetNum s _ (show s.length ≤ 1000000 by omega), s_l1In, PN, n_byte]
 refine wp_ck (room (by omega) (by omega)) ?_
 have bad : ∀ (h : ∀ c k, getN 5 0 0 (s.drop 1) = some (c, k) → (s.getD 0 0).toNat = 74 → c ≤ 48 → headC s n c k = ([], 0, false)), Wp (fun r => r = headOf s n) (some ([], 0, false)) := fun h => by
  refine wp_some ?_
  unfold headOf
  cases hg : getN 5 0 0 (s.drop 1) with
  | none => rfl
  | some ck =>
   obtain ⟨c, k⟩ := ck
   dsimp only
   split
   ·rename_i hh; exact (h c k hg hh.1 hh.2).symm
   ·rfl
 have badC : ∀ c k, (∀ ats e, readN c s (1 + k) = some (ats, e) → ¬ (s.length = e + 4 ∧ TxOk n (putsOf ats))) → headC s n c k = ([], 0, false) := fun c k h => by
  unfold headC
  cases hr : readN c s (1 + k) with
  | none => rfl
  | some r =>
   obtain ⟨ats, e⟩ := r
   dsimp only
   rw [if_neg (h ats e hr)]
 cases hg : getN 5 0 0 (s.drop 1) with
 | none =>
  rw [show getNum s 1 = _ from getNum_no (p := 1) hg]
  exact bad fun c k h => by rw [hg] at h; cases h
 | some ck =>
  obtain ⟨c, k⟩ := ck
  obtain ⟨g1, g2, g3, g4⟩ := getN_some hg
  rw [List.length_drop] at g3
  rw [show getNum s 1 = _ from getNum_of (p := 1) hg]
  simp only [cond_true]
  obtain ⟨y, hy⟩ := get_some (l := s) (i := 0) (by omega)
  have hyD : s.getD 0 0 = y := by rw [List.getD_eq_getElem?_getD, hy]; rfl
  rw [gt0 hy, bsome, b2i_eq]
  refine wp_if (fun h74 => bad fun c k _ h _ => absurd h (by rw [hyD]; omega)) (fun h74 => ?_)
  have badC0 : c = 0 → headC s n c k = ([], 0, false) := fun hc => badC c k fun ats e hr hh => by
   obtain ⟨h1, h2⟩ := readN_ge _ _ _ _ _ hr
   have h3 := tx_ne hh.2
   simp only [putsOf, List.length_map] at h3
   omega
  refine wp_if (fun hc => ?_) (fun hc => bad fun c' k' h _ h2 => by rw [hg] at h; cases h; exact badC0 (by omega))
  have hH : headOf s n = headC s n c k := by
   unfold headOf
   rw [hg]
   dsimp only
   rw [if_pos ⟨by rw [hyD]; omega, by omega⟩]
  rw [hH]
  refine wp_loop (fun x => c - x.2.2.2.toNat) (fun x => ∃ (i p : Nat) (ats : List Int), x = ((p : Int), ats, putsOf ats, (i : Int)) ∧ i ≤ c ∧ ats.length = i ∧ p ≤ s.length ∧ readN c s (1 + k) = (readN (c - i) s p).map (fun r => (ats ++ r.1, r.2)))
   (fun r => (∃ (p : Nat) (ats : List Int), r = .inl ((p : Int), ats, putsOf ats) ∧ p ≤ s.length ∧ ats.length = c ∧ readN c s (1 + k) = some (ats, p)) ∨ (r = .inr ([], 0, false) ∧ readN c s (1 + k) = none)) ⟨0, 1 + k, [], rfl, by omega, rfl, by omega, by simp⟩ ?_ ?_
  ·rintro _ ⟨i, p, ats, rfl, h1, h2, h3, h4⟩
   dsimp only
   refine wp_if (fun hi => ?_) (fun hi => wp_out (.inl ⟨p, ats, rfl, h3, by omega, by rw [h4, show c - i = 0 by omega]; simp [readN]⟩))
   cases hg2 : getN 5 0 0 (s.drop p) with
   | none =>
    rw [getNum_no hg2]
    exact wp_out (.inr ⟨rfl, by rw [h4, show c - i = (c - i - 1) + 1 by omega]; simp [readN, hg2]⟩)
   | some mk =>
    obtain ⟨m, k2⟩ := mk
    obtain ⟨j1, j2, j3, j4⟩ := getN_some hg2
    rw [List.length_drop] at j3
    rw [getNum_of hg2]
    simp only [cond_true]
    refine wp_ck (room (by omega) (by omega)) (wp_ck (room (by omega) (by simp [putsOf]; omega)) ?_)
    refine wp_back ⟨i + 1, p + k2, ats ++ [(m : Int)], ?_, by omega, by simp; omega, by omega, ?_⟩ (by dsimp only; rw [ir_add1 (by omega)]; omega)
    ·rw [ir_add1 (by omega)]
     simp [putsOf]
    ·rw [h4, show c - i = (c - (i + 1)) + 1 by omega, readN_step hg2]
     simp
  ·rintro r (⟨p, ats, rfl, h1, h2, h3⟩ | ⟨rfl, h3⟩)
   ·rw [Sum.elim_inl]
    dsimp only
    rw [iadd (a := (p : Int)) (b := 4) (by omega)]
    refine wp_if (fun hl => wp_some (badC c k fun ats' e hr hh => by rw [h3] at hr; cases hr; omega).symm) (fun hl => ?_)
    rw [s_TxOk _ _ (by simp [putsOf]; omega)]
    simp only [PN]
    refine wp_if (fun hT => ?_) (fun hT => wp_some (badC c k fun ats' e hr hh => by rw [h3] at hr; cases hr; exact hT hh.2).symm)
    obtain ⟨x0, hx0⟩ := get_some (l := s) (i := p) (by omega)
    obtain ⟨x1, hx1⟩ := get_some (l := s) (i := p + 1) (by omega)
    obtain ⟨x2, hx2⟩ := get_some (l := s) (i := p + 2) (by omega)
    obtain ⟨x3, hx3⟩ := get_some (l := s) (i := p + 3) (by omega)
    have l0 := x0.toNat_lt
    have l1 := x1.toNat_lt
    have l2 := x2.toNat_lt
    have l3 := x3.toNat_lt
    rw [gt_ok hx0, bsome, iadd (a := (p : Int)) (b := 1) (by omega), iadd (a := (p : Int)) (b := 2) (by omega), iadd (a := (p : Int)) (b := 3) (by omega),
     show (p : Int) + 1 = ((p + 1 : Nat) : Int) by omega, show (p : Int) + 2 = ((p + 2 : Nat) : Int) by omega, show (p : Int) + 3 = ((p + 3 : Nat) : Int) by omega, gt_ok hx1, gt_ok hx2, gt_ok hx3, bsome, bsome, bsome]
    have hdrop : s.drop p = [x0, x1, x2, x3] := by
     rw [drop_at hx0, drop_at hx1, drop_at hx2, drop_at hx3, drop_ge (by omega)]
    refine wp_some ?_
    unfold headC
    rw [h3]
    dsimp only
    rw [if_pos ⟨by omega, hT⟩, hdrop]
    have e : be4 [x0, x1, x2, x3] = ((x0.toNat * 256 + x1.toNat) * 256 + x2.toNat) * 256 + x3.toNat := by simp [be4]
    rw [e, imul (a := ((x0.toNat : Nat) : Int)) (by omega), iadd (a := ((x0.toNat : Nat) : Int) * 256) (by omega), imul (a := ((x0.toNat : Nat) : Int) * 256 + _) (by omega), iadd (a := _ * 256) (b := ((x2.toNat : Nat) : Int)) (by omega), imul (a := _ + ((x2.toNat : Nat) : Int)) (by omega), iadd (b := ((x3.toNat : Nat) : Int)) (by omega)]
    congr 2
   ·refine wp_some ?_
    unfold headC
    rw [h3]
end Go.Ar
end
section
namespace Go.Ar
open Go.Proofs
set_option linter.unusedVariables false
set_option linter.unusedSimpArgs false
set_option maxRecDepth 20000
/-! ### Recovery -/
theorem tx_pos {n : Int} {l : List PutD} (h : TxOk n l) : ∀ (i : Nat) (w : PutD), l[i]? = some w → (i : Int) ≤ w.pos
 | 0, w, hw => (h.rng 0 w hw).1.1
 | i + 1, w, hw => by
  obtain ⟨v, hv⟩ := get_some (l := l) (i := i) (by have := len_lt hw; omega)
  have := tx_pos h i v hv
  have := h.inc i v w hv hw
  omega
theorem tx_len {n : Int} {l : List PutD} (h : TxOk n l) : (l.length : Int) ≤ n := by
 have h1 := tx_ne h
 obtain ⟨w, hw⟩ := get_some (l := l) (i := l.length - 1) (by omega)
 have h2 := tx_pos h _ w hw
 have h3 := (h.rng _ w hw).1.2
 omega
theorem headOf_ok {s : List UInt8} {n : Int} (h : (headOf s n).2.2 = true) : TxOk n (putsOf (headOf s n).1) := by
 unfold headOf at h ⊢
 cases hg : getN 5 0 0 (s.drop 1) with
 | none => rw [hg] at h; cases h
 | some ck =>
  obtain ⟨c, k⟩ := ck
  rw [hg] at h
  dsimp only at h ⊢
  split at h
  ·rename_i h1
   rw [if_pos h1]
   unfold headC at h ⊢
   cases hr : readN c s (1 + k) with
   | none => rw [hr] at h; cases h
   | some r =>
    obtain ⟨ats, e⟩ := r
    rw [hr] at h
    dsimp only at h ⊢
    split at h
    ·rename_i h2
     rw [if_pos h2]
     exact h2.2
    ·cases h
  ·cases h
def recF (n : Nat) (ats : List Int) (sec : List (List UInt8)) : List (List UInt8) := foldI (fun k sec (a : Int) => sec.set (n + 1 + a.toNat) (sec.getD (1 + k) [])) 0 ats sec
theorem foldI_len {α β : Type} (g : Nat → List β → α → List β) (hg : ∀ k b x, (g k b x).length = b.length) : ∀ (l : List α) (i : Nat) (b : List β), (foldI g i l b).length = b.length
 | [], _, _ => rfl
 | x :: l, i, b => by rw [foldI, foldI_len g hg l, hg]
theorem recF_len (n : Nat) (ats : List Int) (sec : List (List UInt8)) : (recF n ats sec).length = sec.length := foldI_len _ (fun k b x => by simp) _ _ _
theorem recF_snoc (n : Nat) {ats : List Int} {i : Nat} {a : Int} (h : ats[i]? = some a) (sec : List (List UInt8)) : recF n (ats.take (i + 1)) sec = (recF n (ats.take i) sec).set (n + 1 + a.toNat) ((recF n (ats.take i) sec).getD (1 + i) []) := by
 unfold recF
 rw [take_snoc' h, foldI_snoc, List.length_take, Nat.zero_add, Nat.min_eq_left (by have := len_lt h; omega)]
open Classical in
noncomputable def recSec (d : DiskD) (n : Nat) : List (List UInt8) :=
 if (headOf (d.sectors.getD 0 []) (n : Int)).2.2 = true ∧ ((dataSum ((d.sectors.drop 1).take (headOf (d.sectors.getD 0 []) (n : Int)).1.length) : Nat) : Int) = (headOf (d.sectors.getD 0 []) (n : Int)).2.1 then recF n (headOf (d.sectors.getD 0 []) (n : Int)).1 d.sectors else d.sectors
noncomputable def recover (d : DiskD) (n : Nat) : DiskD := ⟨(recSec d n).set 0 [], []⟩
theorem recSec_len (d : DiskD) (n : Nat) : (recSec d n).length = d.sectors.length := by
 unfold recSec
 split
 ·exact recF_len _ _ _
 ·rfl
theorem rec_loop {d : DiskD} {n : Nat} {ats : List Int} (hd : d.sectors.length = 2 * n + 1) (hn : n ≤ 48) (hT : TxOk (n : Int) (putsOf ats)) : Wp (fun r => r = recF n ats d.sectors)
  (lp (σ := Int × (List (List UInt8))) (ρ := (List (List UInt8))) (fun s43 => @ite _ (s43.1 < (ats.length : Int)) (Classical.propDecidable _) (bnd (gt ats s43.1) fun y44 =>
   bnd (gt s43.2 (iop .add .i64 1 s43.1)) fun y45 => bnd (gt s43.2 (iop .add .i64 (iop .add .i64 (n : Int) 1) y44)) fun y46 =>
   some (.inl (iop .add .i64 s43.1 1, sl s43.2 (iop .add .i64 (iop .add .i64 (n : Int) 1) y44) y45))) (some (.inr (s43.2)))) (0, d.sectors)) := by
 have hl := tx_len hT
 simp only [putsOf, List.length_map] at hl
 refine wp_lp (fun x => ats.length - x.1.toNat) (fun x => ∃ i : Nat, x = ((i : Int), recF n (ats.take i) d.sectors) ∧ i ≤ ats.length) ⟨0, rfl, by omega⟩ ?_
 rintro _ ⟨i, rfl, hi⟩
 dsimp only
 refine wp_if (fun hi2 => ?_) (fun hi2 => wp_out (by rw [List.take_of_length_le (by omega)]))
 obtain ⟨a, ha⟩ := get_some (l := ats) (i := i) (by omega)
 have hL := recF_len n (ats.take i) d.sectors
 have har := (hT.rng i ⟨a, []⟩ (by simp [putsOf, ha])).1
 dsimp only at har
 obtain ⟨x, hx⟩ := get_some (l := recF n (ats.take i) d.sectors) (i := 1 + i) (by omega)
 obtain ⟨z, hz⟩ := get_some (l := recF n (ats.take i) d.sectors) (i := n + 1 + a.toNat) (by omega)
 rw [gt_ok ha, bsome, iadd (a := 1) (by omega), iadd (a := (n : Int)) (by omega), iadd (a := (n : Int) + 1) (by omega), show (1 : Int) + (i : Int) = ((1 + i : Nat) : Int) by omega, gt_ok hx, bsome,
  show (n : Int) + 1 + a = ((n + 1 + a.toNat : Nat) : Int) by omega, gt_ok hz, bsome, sl_eq, Int.toNat_natCast]
 refine wp_back ⟨i + 1, ?_, by omega⟩ (by dsimp only; rw [ir_add1 (by omega)]; omega)
 rw [ir_add1 (by omega), recF_snoc n ha, List.getD_eq_getElem?_getD (i := 1 + i), hx]
 rfl
theorem sec_small {d : DiskD} (h : DiskOk d) (k : Nat) : Small ((d.sectors.drop 1).take k) := by
 have h1 := h.n1
 refine ⟨by simp; omega, fun s hs => ?_⟩
 obtain ⟨i, hi⟩ := List.mem_iff_getElem?.1 (List.mem_of_mem_drop (List.mem_of_mem_take hs))
 have := h.sec i s hi
 omega
theorem sb_one {d : DiskD} {k : Nat} : sb d.sectors 1 (1 + (k : Int)) = (d.sectors.drop 1).take k := by
 rw [sb_eq]
 show (d.sectors.drop 1).take _ = _
 congr 1; omega
theorem i_Recover {d : DiskD} {n : Nat} (h : Homed d (n : Int)) : iRecover d (n : Int) = some (recover d n) := by
 obtain ⟨h1, h2, h3⟩ := h
 have h4 := h1.n1
 refine wp_eq ?_
 unfold iRecover
 simp only [i_homed, PN, i_Fall0 h1]
 refine wp_if (fun _ => ?_) (fun hh => absurd ⟨h1, h2, h3⟩ hh)
 obtain ⟨s0, hs0⟩ := get_some (l := d.sectors) (i := 0) (by omega)
 have hsD : d.sectors.getD 0 [] = s0 := by rw [List.getD_eq_getElem?_getD, hs0]; rfl
 have hs0l := h1.sec 0 s0 hs0
 rw [gt0 hs0, bsome, i_HeadOf s0 _ (by omega), bsome]
 rw [show s0 = d.sectors.getD 0 [] from hsD.symm]
 refine wp_bnd (fun r => r = recSec d n) ?_ ?_
 ·refine wp_bnd (fun b => b = tb ((headOf (d.sectors.getD 0 []) (n : Int)).2.2 = true ∧ ((dataSum ((d.sectors.drop 1).take (headOf (d.sectors.getD 0 []) (n : Int)).1.length) : Nat) : Int) = (headOf (d.sectors.getD 0 []) (n : Int)).2.1)) ?_ ?_
  ·refine wp_cond (fun hb => ?_) (fun hb => wp_no fun hh => by rw [hb] at hh; exact absurd hh.1 (by simp))
   have hT := headOf_ok hb
   have hl := tx_len hT
   simp only [putsOf, List.length_map] at hl
   rw [iadd (a := 1) (by omega), ck_in (ins (by omega)), sb_one, i_dataSum (sec_small h1 _), bsome]
   exact wp_some (tb_congr ⟨fun e => ⟨hb, e⟩, fun e => e.2⟩)
  ·rintro b rfl
   refine wp_cond (fun hb => ?_) (fun hb => wp_some ?_)
   ·have hb := tb_iff.1 hb
    unfold recSec
    rw [if_pos hb]
    exact rec_loop (by omega) (by omega) (headOf_ok hb.1)
   ·unfold recSec
    rw [if_neg fun hh => by rw [tb_pos hh] at hb; cases hb]
 ·rintro r rfl
  obtain ⟨z, hz⟩ := get_some (l := recSec d n) (i := 0) (by rw [recSec_len]; omega)
  rw [gt0 hz, bsome, sl_eq]
  exact wp_some rfl
theorem s_Recover {d : DiskD} {n : Nat} (h : Homed d (n : Int)) : sRecover d (n : Int) = some (recover d n) := by
 obtain ⟨h1, h2, h3⟩ := h
 have h4 := h1.n1
 refine wp_eq ?_
 unfold sRecover
 simp only [s_l4Ok, PN, s_Fall0 h1]
 refine wp_if (fun _ => ?_) (fun hh => absurd ⟨h1, h2, h3⟩ hh)
 obtain ⟨s0, hs0⟩ := get_some (l := d.sectors) (i := 0) (by omega)
 have hsD : d.sectors.getD 0 [] = s0 := by rw [List.getD_eq_getElem?_getD, hs0]; rfl
 have hs0l := h1.sec 0 s0 hs0
 rw [gt0 hs0, bsome, s_HeadOf s0 _ (by omega), bsome]
 rw [show s0 = d.sectors.getD 0 [] from hsD.symm]
 refine wp_bnd (fun r => r = recSec d n) ?_ ?_
 ·refine wp_bnd (fun b => b = tb ((headOf (d.sectors.getD 0 []) (n : Int)).2.2 = true ∧ ((dataSum ((d.sectors.drop 1).take (headOf (d.sectors.getD 0 []) (n : Int)).1.length) : Nat) : Int) = (headOf (d.sectors.getD 0 []) (n : Int)).2.1)) ?_ ?_
  ·refine wp_cond (fun hb => ?_) (fun hb => wp_no fun hh => by rw [hb] at hh; exact absurd hh.1 (by simp))
   have hT := headOf_ok hb
   have hl := tx_len hT
   simp only [putsOf, List.length_map] at hl
   rw [iadd (a := 1) (by omega), ck_in (ins (by omega)), sb_one, s_l4Sum (sec_small h1 _), bsome]
   exact wp_some (tb_congr ⟨fun e => ⟨hb, e⟩, fun e => e.2⟩)
  ·rintro b rfl
   refine wp_cond (fun hb => ?_) (fun hb => wp_some ?_)
   ·have hb := tb_iff.1 hb
    unfold recSec
    rw [if_pos hb]
    exact rec_loop (by omega) (by omega) (headOf_ok hb.1)
   ·unfold recSec
    rw [if_neg fun hh => by rw [tb_pos hh] at hb; cases hb]
 ·rintro r rfl
  obtain ⟨z, hz⟩ := get_some (l := recSec d n) (i := 0) (by rw [recSec_len]; omega)
  rw [gt0 hz, bsome, sl_eq]
  exact wp_some rfl
theorem recover_ok {d : DiskD} {n : Nat} (h : Homed d (n : Int)) : Homed (recover d n) (n : Int) := by
 obtain ⟨h1, h2, h3⟩ := h
 have hset : ∀ (l : List (List UInt8)) (k : Nat) (x : List UInt8), SecOk l → x.length ≤ 90 → SecOk (l.set k x) := fun l k x hl hx i s hi => by
  rw [List.getElem?_set] at hi
  split at hi
  ·split at hi
   ·injection hi with hi; subst hi; exact hx
   ·cases hi
  ·exact hl i s hi
 have hgD : ∀ (l : List (List UInt8)) (k : Nat), SecOk l → (l.getD k []).length ≤ 90 := fun l k hl => by
  rw [List.getD_eq_getElem?_getD]
  cases hk : l[k]? with
  | none => simp
  | some x => exact hl k x hk
 have hrec : ∀ (ats : List Int) (i : Nat) (l : List (List UInt8)), SecOk l → SecOk (foldI (fun k sec (a : Int) => sec.set (n + 1 + a.toNat) (sec.getD (1 + k) [])) i ats l) := by
  intro ats
  induction ats with
  | nil => intro i l hl; exact hl
  | cons a ats ih => intro i l hl; exact ih _ _ (hset _ _ _ hl (hgD _ _ hl))
 have hS : SecOk (recSec d n) := by
  unfold recSec
  split
  ·exact hrec _ _ _ h1.sec
  ·exact h1.sec
 have hL := recSec_len d n
 have := h1.n1
 refine ⟨⟨by simp [recover]; omega, by simp [recover], hset _ _ _ hS (by simp), fun i w hw => by simp [recover] at hw⟩, h2, ?_⟩
 simp only [recover, List.length_set]
 omega
end Go.Ar
end
section
namespace Go.Ar
open Go.Proofs
set_option linter.unusedVariables false
set_option linter.unusedSimpArgs false
set_option maxRecDepth 20000
/-! ### File systems read from blocks -/
theorem roomL {n b : Int} (h : 0 ≤ n) (h2 : n ≤ 1000000000) (hb : b ≤ 1000 := by decide) (h0 : 0 ≤ b := by decide) : Room n b := by
 rw [Room_eq]
 have : n * b ≤ 1000000000 * 1000 := Int.mul_le_mul h2 hb h0 (by decide)
 omega
theorem flat_inj : ∀ (l l' : List Int), Nums l → Nums l' → l.flatMap putNum = l'.flatMap putNum → l = l'
 | [], l', _, h', h => (flat_nil h' h.symm).symm
 | x :: l, [], h0, h', h => flat_nil h0 h
 | x :: l, y :: l', h0, h', h => by
  simp only [List.flatMap_cons] at h
  have hx := h0 x (by simp)
  have hy := h' y (by simp)
  have e1 := getN_putNum hx (l.flatMap putNum)
  have e2 := getN_putNum hy (l'.flatMap putNum)
  rw [h, e2] at e1
  injection e1 with e1
  injection e1 with e3 e4
  have hxy : x = y := by omega
  subst hxy
  have := List.append_cancel_left h
  rw [flat_inj l l' (fun z hz => h0 z (by simp [hz])) (fun z hz => h' z (by simp [hz])) this]
theorem nodeText_inj {n m : NodeD} (hn : NodeOk n) (hm : NodeOk m) (h : nodeText n = nodeText m) : n = m := by
 have hk : n.kind = m.kind := by
  have h1 : (nodeText n)[0]? = some (kindB n.kind) := by
   by_cases hk : n.kind = 0
   ·rw [nodeText_ok hn, if_pos hk]; rfl
   ·rw [nodeText_used hn hk]; rfl
  have h2 : (nodeText m)[0]? = some (kindB m.kind) := by
   by_cases hk : m.kind = 0
   ·rw [nodeText_ok hm, if_pos hk]; rfl
   ·rw [nodeText_used hm hk]; rfl
  rw [h, h2] at h1
  injection h1 with h1
  rw [← kindB_to hn, ← kindB_to hm, h1]
 by_cases hz : n.kind = 0
 ·rw [hn.free hz, hm.free (by omega)]
 ·rw [nodeText_used hn hz, nodeText_used hm (by omega)] at h
  injection h with _ h
  have := flat_inj _ _ hn.nums hm.nums h
  obtain ⟨k, g, t, s, b⟩ := n
  obtain ⟨k', g', t', s', b'⟩ := m
  dsimp only at this hk
  injection this with e1 this
  injection this with e2 this
  injection this with e3 e4
  have e4 : b = b' := e4
  subst e1 e2 e3 e4 hk
  rfl
theorem nodeOf_text {n : NodeD} (hn : NodeOk n) : nodeOf (nodeText n) = (n, true) := by
 unfold nodeOf
 have h : ∃ m, NodeOk m ∧ nodeText m = nodeText n := ⟨n, hn, rfl⟩
 rw [dif_pos h]
 obtain ⟨h1, h2⟩ := Classical.choose_spec h
 rw [nodeText_inj h1 hn h2]
theorem g_Equal {a b : List (List UInt8)} (ha : a.length ≤ 1000000) : gslices_Equal_string a b = some (tb (a = b)) := by
 refine wp_eq ?_
 unfold gslices_Equal_string
 simp only [PN]
 refine wp_if (fun h => wp_no fun e => h (by rw [e])) (fun hl => ?_)
 refine wp_loop (fun x => a.length - x.toNat) (fun x => ∃ i : Nat, x = (i : Int) ∧ i ≤ a.length ∧ ∀ j, j < i → a[j]? = b[j]?) (fun r => (r = .inl () ∧ a = b) ∨ (r = .inr false ∧ ¬ a = b)) ⟨0, rfl, by omega, fun j hj => by omega⟩ ?_ ?_
 ·rintro _ ⟨i, rfl, h1, h2⟩
  refine wp_if (fun hi => ?_) (fun hi => wp_out (.inl ⟨rfl, List.ext_getElem? fun j => by
   by_cases hj : j < i
   ·exact h2 j hj
   ·rw [List.getElem?_eq_none (by omega), List.getElem?_eq_none (by omega)]⟩))
  obtain ⟨x, hx⟩ := get_some (l := a) (i := i) (by omega)
  obtain ⟨y, hy⟩ := get_some (l := b) (i := i) (by omega)
  rw [gt_ok hx, gt_ok hy, bsome, bsome]
  refine wp_if (fun hne => wp_out (.inr ⟨rfl, fun e => hne (by rw [e, hy] at hx; cases hx; rfl)⟩)) (fun he => ?_)
  have he := Classical.not_not.1 he
  refine wp_back ⟨i + 1, ir_add1 (by omega), by omega, fun j hj => ?_⟩ (by rw [ir_add1 (by omega)]; omega)
  by_cases e : j = i
  ·subst e; rw [hx, hy, he]
  ·exact h2 j (by omega)
 ·rintro r (⟨rfl, h⟩ | ⟨rfl, h⟩)
  ·exact wp_yes h
  ·exact wp_no h
theorem s_l1Texts {a b : List (List UInt8)} (ha : a.length ≤ 1000000) : sl1Texts a b = some (tb (a = b)) := g_Equal ha
def fsZ : FsD := ⟨[], []⟩
open Classical in
noncomputable def fsOf (l : List (List UInt8)) : FsD × Bool := if h : ∃ f, ShapeOk f ∧ fsBlocks f = l then (Classical.choose h, true) else (fsZ, false)
theorem fsOf_ok {l : List (List UInt8)} (h : (fsOf l).2 = true) : ShapeOk (fsOf l).1 := by
 unfold fsOf at h ⊢
 split at h
 ·rename_i h1
  rw [dif_pos h1]
  exact (Classical.choose_spec h1).1
 ·cases h
/-- What a loop over nodes' texts leaves. -/
def NdQ (L : List (List UInt8)) (r : (List NodeD) ⊕ (FsD × Bool)) : Prop :=
 (∃ ns, r = .inl ns ∧ ns.length = L.length ∧ ∀ (i : Nat) (y : List UInt8), L[i]? = some y → ∃ n, ns[i]? = some n ∧ nodeOf y = (n, true)) ∨ (r = .inr (fsZ, false) ∧ ∃ y ∈ L, (nodeOf y).2 = false)
theorem nd_loop {L : List (List UInt8)} (hL : L.length ≤ 1000) {f : Int × (List NodeD) → Option ((Int × (List NodeD)) ⊕ ((List NodeD) ⊕ (FsD × Bool)))}
  (hf : ∀ (i : Nat) (ns : List NodeD), ns.length = i → i ≤ L.length → f ((i : Int), ns) = (match L[i]? with | some y => cond (nodeOf y).2 (some (.inl (((i + 1 : Nat) : Int), ns ++ [(nodeOf y).1]))) (some (.inr (.inr (fsZ, false)))) | none => some (.inr (.inl ns)))) : Wp (NdQ L) (lp f (0, [])) := by
 refine wp_lp (fun x => L.length - x.1.toNat) (fun x => ∃ (i : Nat) (ns : List NodeD), x = ((i : Int), ns) ∧ ns.length = i ∧ i ≤ L.length ∧ ∀ (j : Nat) (y : List UInt8), j < i → L[j]? = some y → ∃ n, ns[j]? = some n ∧ nodeOf y = (n, true)) ⟨0, [], rfl, rfl, by omega, fun j y hj => by omega⟩ ?_
 rintro _ ⟨i, ns, rfl, h1, h2, h3⟩
 rw [hf i ns h1 h2]
 cases hy : L[i]? with
 | none =>
  have : L.length ≤ i := by
   rw [List.getElem?_eq_none_iff] at hy; exact hy
  exact wp_out (.inl ⟨ns, rfl, by omega, fun j y hj => h3 j y (by have := len_lt hj; omega) hj⟩)
 | some y =>
  dsimp only
  have hi := len_lt hy
  refine wp_cond (fun hb => wp_back ⟨i + 1, _, rfl, by simp; omega, by omega, fun j z hj hz => ?_⟩ (by dsimp only; omega)) (fun hb => wp_out (.inr ⟨rfl, y, List.mem_of_getElem? hy, hb⟩))
  by_cases e : j = i
  ·subst e
   rw [hy] at hz; cases hz
   exact ⟨(nodeOf y).1, by rw [List.getElem?_append_right (by omega), h1, Nat.sub_self]; rfl, Prod.ext rfl hb⟩
  ·obtain ⟨n, k1, k2⟩ := h3 j z (by omega) hz
   exact ⟨n, by rw [List.getElem?_append_left (by omega)]; exact k1, k2⟩
theorem nd_text {ns0 : List NodeD} (h0 : NodesOk ns0) {r : (List NodeD) ⊕ (FsD × Bool)} (h : NdQ (ns0.map nodeText) r) : r = .inl ns0 := by
 rcases h with ⟨ns, rfl, h1, h2⟩ | ⟨rfl, y, h1, h2⟩
 ·congr 1
  refine List.ext_getElem? fun i => ?_
  cases hi : ns0[i]? with
  | none =>
   rw [List.getElem?_eq_none_iff] at hi
   rw [List.getElem?_eq_none (by rw [h1, List.length_map]; exact hi)]
  | some n =>
   obtain ⟨m, k1, k2⟩ := h2 i (nodeText n) (by simp [hi])
   rw [nodeOf_text (h0 i n hi)] at k2
   injection k2 with k2
   rw [k1, k2]
 ·obtain ⟨n, hn, rfl⟩ := List.mem_map.1 h1
  obtain ⟨i, hi⟩ := List.mem_iff_getElem?.1 hn
  rw [nodeOf_text (h0 i n hi)] at h2
  cases h2
structure FbI (f : FsD) (l : List (List UInt8)) : Prop where
 len : l.length = 2 + f.nodes.length + f.data.length
 hd : l[0]? = some [66, 65, 83, 78, UInt8.ofNat f.nodes.length, UInt8.ofNat f.data.length]
 nd : (l.drop 2).take f.nodes.length = f.nodes.map nodeText
 dt : l.drop (2 + f.nodes.length) = f.data
theorem putNum_one {k : Nat} (h : k < 128) : putNum (k : Int) = [UInt8.ofNat k] := by rw [putNum_in (by omega), Int.toNat_natCast, putNat_lt h]
theorem fb_of {f : FsD} {l : List (List UInt8)} (hs : ShapeOk f) (h : fsBlocks f = l) : FbI f l := by
 have h1 := hs.n1
 have h2 := hs.d1
 subst h
 refine ⟨fsBlocks_len f, ?_, ?_, ?_⟩
 ·unfold fsBlocks
  rw [putNum_one (by omega), putNum_one (by omega)]; rfl
 ·unfold fsBlocks
  rw [List.append_assoc]
  show (f.nodes.map nodeText ++ f.data).take _ = _
  rw [List.take_left' (by simp)]
 ·unfold fsBlocks
  rw [List.drop_left' (by simp; omega)]
theorem i_FsOf {l : List (List UInt8)} (hl : l.length ≤ 1000) (hS : SecOk l) : iFsOf l = some (fsOf l) := by
 refine wp_eq ?_
 have hbad : (¬ ∃ f, ShapeOk f ∧ fsBlocks f = l) → Wp (fun r => r = fsOf l) (some (fsZ, false)) := fun h => wp_some (by unfold fsOf; rw [dif_neg h])
 unfold iFsOf
 simp only [PN]
 refine wp_if (fun h2 => hbad fun ⟨f, h, e⟩ => by have := (fb_of h e).len; omega) (fun h2 => ?_)
 obtain ⟨y, hy⟩ := get_some (l := l) (i := 0) (by omega)
 have hyl := hS 0 y hy
 rw [gt0 hy, bsome]
 refine wp_if (fun h4 => hbad fun ⟨f, h, e⟩ => by have := (fb_of h e).hd; rw [hy] at this; cases this; simp at h4) (fun h4 => ?_)
 refine wp_ck (room (by omega) (by omega)) ?_
 rw [i_GetNum y _ (by omega), bsome, i_GetNum y _ (by omega), bsome]
 by_cases hE : ∃ f, ShapeOk f ∧ fsBlocks f = l
 ·unfold fsOf
  rw [dif_pos hE]
  obtain ⟨hs, he⟩ := Classical.choose_spec hE
  generalize Classical.choose hE = f at hs he ⊢
  have hf := fb_of hs he
  have n1 := hs.n1
  have d1 := hs.d1
  have hlen := hf.len
  have hhd := hf.hd
  rw [hy] at hhd; cases hhd
  have g1 : getNum [66, 65, 83, 78, UInt8.ofNat f.nodes.length, UInt8.ofNat f.data.length] 4 = ((f.nodes.length : Int), 5, true) := by
   have := getN_putNum (x := (f.nodes.length : Int)) (by omega) [UInt8.ofNat f.data.length]
   rw [putNum_one (by omega)] at this
   exact getNum_of (p := 4) (m := f.nodes.length) (c := 1) this
  have g2 : getNum [66, 65, 83, 78, UInt8.ofNat f.nodes.length, UInt8.ofNat f.data.length] 5 = ((f.data.length : Int), 6, true) := by
   have := getN_putNum (x := (f.data.length : Int)) (by omega) []
   rw [putNum_one (by omega)] at this
   exact getNum_of (p := 5) (m := f.data.length) (c := 1) this
  rw [g1]
  dsimp only
  rw [g2]
  simp only [cond_true]
  rw [iadd (a := 2) (by omega), iadd (a := 2 + (f.nodes.length : Int)) (by omega), if_neg (by omega), if_neg (by omega), ck_in (ins (by omega))]
  have e1 : sb l (2 + (f.nodes.length : Int)) (l.length : Int) = f.data := by
   rw [sb_eq, List.take_of_length_le (by simp), show (2 + (f.nodes.length : Int)).toNat = 2 + f.nodes.length by omega, hf.dt]
  have e2 : sb l 2 (2 + (f.nodes.length : Int)) = f.nodes.map nodeText := by
   rw [sb_eq, ← hf.nd]
   show (l.drop 2).take _ = _
   congr 1; omega
  rw [e1, clone_S (by omega), bsome, ck_in (ins (by omega)), e2]
  refine wp_bnd _ (nd_loop (L := f.nodes.map nodeText) (by simp; omega) (fun i ns h1 h2 => ?_)) ?_
  ·dsimp only
   rw [List.length_map]
   cases hi : (f.nodes.map nodeText)[i]? with
   | none => rw [if_neg (by rw [List.getElem?_eq_none_iff] at hi; simp at hi; omega)]
   | some z =>
    have := len_lt hi
    rw [List.length_map] at this
    obtain ⟨n, hn, rfl⟩ := List.mem_map.1 (List.mem_of_getElem? hi)
    have := nodeText_len n
    rw [if_pos (by omega), gt_ok hi, bsome, i_NodeOf _ (by omega), bsome, ck_in (roomL (by omega) (by omega)), ir_add1 (by omega)]
    rfl
  ·intro r hr
   rw [nd_text hs.nodes hr, Sum.elim_inl, show (⟨f.nodes, f.data⟩ : FsD) = f from rfl, i_ShapeOk, bsome, cond_tb, if_pos hs, i_FsBlocks, if_pos hs, bsome, oc_s, g_Equal (by rw [he]; omega), bsome, cond_tb, if_pos he]
   exact wp_some rfl
 ·have fin := hbad hE
  cases g1 : getNum y 4 with
  | mk c r5 =>
  obtain ⟨q, b⟩ := r5
  dsimp only
  cases g2 : getNum y q with
  | mk c2 r7 =>
  obtain ⟨q2, b2⟩ := r7
  dsimp only
  refine wp_cond (fun hb => wp_cond (fun hb2 => ?_) (fun _ => fin)) (fun _ => fin)
  have hc : 0 ≤ c ∧ c ≤ 2147483647 := by
   unfold getNum at g1
   rw [if_pos (by decide)] at g1
   cases hg : getN 5 0 0 (y.drop (4 : Int).toNat) with
   | none => rw [hg] at g1; dsimp only at g1; injection g1 with g1; omega
   | some mc =>
    have := (getN_some (m := mc.1) (c := mc.2) hg).2.2.2
    rw [hg] at g1; dsimp only at g1; injection g1 with g1; omega
  have hc2 : 0 ≤ c2 ∧ c2 ≤ 2147483647 := by
   unfold getNum at g2
   split at g2
   ·cases hg : getN 5 0 0 (y.drop q.toNat) with
    | none => rw [hg] at g2; dsimp only at g2; injection g2 with g2; omega
    | some mc =>
     have := (getN_some (m := mc.1) (c := mc.2) hg).2.2.2
     rw [hg] at g2; dsimp only at g2; injection g2 with g2; omega
   ·injection g2 with g2; omega
  rw [iadd (a := 2) (by omega), iadd (a := 2 + c) (by omega)]
  refine wp_if (fun _ => fin) (fun h10 => wp_if (fun _ => fin) (fun hlen => ?_))
  rw [ck_in (ins (by omega)), clone_S (by rw [sb_eq]; simp; omega), bsome, ck_in (ins (by omega))]
  refine wp_bnd _ (nd_loop (L := sb l 2 (2 + c)) (by rw [sb_eq]; simp; omega) (fun i ns h1 h2 => ?_)) ?_
  ·dsimp only
   cases hi : (sb l 2 (2 + c))[i]? with
   | none => rw [if_neg (by rw [List.getElem?_eq_none_iff] at hi; omega)]
   | some z =>
    have := len_lt hi
    have hz : z.length ≤ 90 := by
     have := List.mem_of_getElem? hi
     rw [sb_eq] at this
     obtain ⟨j, hj⟩ := List.mem_iff_getElem?.1 (List.mem_of_mem_drop (List.mem_of_mem_take this))
     exact hS j z hj
    have hLl : (sb l 2 (2 + c)).length ≤ 1000 := by rw [sb_eq]; simp; omega
    rw [if_pos (by omega), gt_ok hi, bsome, i_NodeOf _ (by omega), bsome, ck_in (roomL (by omega) (by omega)), ir_add1 (by omega)]
    rfl
  ·rintro r (⟨ns, rfl, h1, h2⟩ | ⟨rfl, _⟩)
   ·rw [Sum.elim_inl, i_ShapeOk, bsome, cond_tb]
    refine wp_if (fun hs => ?_) (fun _ => fin)
    rw [i_FsBlocks, if_pos hs, bsome, oc_s, g_Equal (by have := hs.n1; have := hs.d1; rw [fsBlocks_len]; omega), bsome, cond_tb]
    exact wp_if (fun he => absurd ⟨_, hs, he⟩ hE) (fun _ => fin)
   ·rw [Sum.elim_inr]; exact fin
theorem s_FsOf {l : List (List UInt8)} (hl : l.length ≤ 1000) (hS : SecOk l) : sFsOf l = some (fsOf l) := by
 refine wp_eq ?_
 have hbad : (¬ ∃ f, ShapeOk f ∧ fsBlocks f = l) → Wp (fun r => r = fsOf l) (some (fsZ, false)) := fun h => wp_some (by unfold fsOf; rw [dif_neg h])
 unfold sFsOf
 simp only [PN]
 refine wp_if (fun h2 => hbad fun ⟨f, h, e⟩ => by have := (fb_of h e).len; omega) (fun h2 => ?_)
 obtain ⟨y, hy⟩ := get_some (l := l) (i := 0) (by omega)
 have hyl := hS 0 y hy
 rw [gt0 hy, bsome]
 refine wp_if (fun h4 => hbad fun ⟨f, h, e⟩ => by have := (fb_of h e).hd; rw [hy] at this; cases this; simp at h4) (fun h4 => ?_)
 obtain ⟨x4, hx4⟩ := get_some (l := y) (i := 4) (by omega)
 obtain ⟨x5, hx5⟩ := get_some (l := y) (i := 5) (by omega)
 have l4 := x4.toNat_lt
 have l5 := x5.toNat_lt
 refine wp_ck (by rw [InR_eq]; omega) (wp_ck (by rw [InR_eq]; omega) ?_)
 have z4 : wrp .i64 (sget y 4) = ((x4.toNat : Nat) : Int) := by rw [show (4 : Int) = ((4 : Nat) : Int) from rfl, sget_at hx4, wrp_eq, w64 (by omega)]
 have z5 : wrp .i64 (sget y 5) = ((x5.toNat : Nat) : Int) := by rw [show (5 : Int) = ((5 : Nat) : Int) from rfl, sget_at hx5, wrp_eq, w64 (by omega)]
 rw [z4, z5, iadd (a := 2) (by omega), iadd (a := 2 + ((x4.toNat : Nat) : Int)) (by omega)]
 refine wp_if (fun hb => hbad fun ⟨f, h, e⟩ => by
  have hf := fb_of h e
  have h1 := hf.hd
  have h3 := hf.len
  have := h.n1
  have := h.d1
  rw [hy] at h1; cases h1
  cases hx4; cases hx5
  apply hb
  simp
  omega) (fun hlen => ?_)
 have hlen := Classical.not_not.1 hlen
 have hcp : (sb l (2 + ((x4.toNat : Nat) : Int)) (l.length : Int)).length ≤ 1000 := by rw [sb_eq]; simp; omega
 rw [ck_in (ins (by omega)), s_l1Copy (by omega), bsome]
 have hLe : ∀ i : Nat, ((l.drop 2).take x4.toNat)[i]? = if i < x4.toNat then l[2 + i]? else none := fun i => by
  rw [List.getElem?_take]
  split
  ·rw [List.getElem?_drop]
  ·rfl
 refine wp_bnd _ (nd_loop (L := (l.drop 2).take x4.toNat) (by simp; omega) (fun i ns h1 h2 => ?_)) ?_
 ·dsimp only
  rw [hLe]
  by_cases hi : i < x4.toNat
  ·rw [if_pos hi, if_pos (by omega)]
   obtain ⟨z, hz⟩ := get_some (l := l) (i := 2 + i) (by omega)
   have hzl := hS _ z hz
   rw [iadd (a := 2) (by omega), show (2 : Int) + (i : Int) = ((2 + i : Nat) : Int) by omega, gt_ok hz, hz, bsome, s_NodeOf _ (by omega), bsome, ck_in (roomL (by omega) (by omega)), ir_add1 (by omega)]
   rfl
  ·rw [if_neg hi, if_neg (by omega)]
 ·intro r hr
  by_cases hE : ∃ f, ShapeOk f ∧ fsBlocks f = l
  ·unfold fsOf
   rw [dif_pos hE]
   obtain ⟨hs, he⟩ := Classical.choose_spec hE
   generalize Classical.choose hE = f at hs he ⊢
   have hf := fb_of hs he
   have n1 := hs.n1
   have d1 := hs.d1
   have hhd := hf.hd
   rw [hy] at hhd; cases hhd
   have hx4' : x4.toNat = f.nodes.length := by cases hx4; simp; omega
   rw [hx4', hf.nd] at hr
   have e1 : sb l (2 + ((x4.toNat : Nat) : Int)) (l.length : Int) = f.data := by
    rw [sb_eq, List.take_of_length_le (by simp), show (2 + ((x4.toNat : Nat) : Int)).toNat = 2 + f.nodes.length by omega, hf.dt]
   rw [nd_text hs.nodes hr, Sum.elim_inl, e1, show (⟨f.nodes, f.data⟩ : FsD) = f from rfl, s_ShapeOk, bsome, cond_tb, if_pos hs, s_FsBlocks, if_pos hs, bsome, s_l1Texts (by rw [he]; omega), bsome, cond_tb, if_pos he]
   exact wp_some rfl
  ·have fin := hbad hE
   rcases hr with ⟨ns, rfl, h1, h2⟩ | ⟨rfl, _⟩
   ·rw [Sum.elim_inl, s_ShapeOk, bsome, cond_tb]
    refine wp_if (fun hs => ?_) (fun _ => fin)
    rw [s_FsBlocks, if_pos hs, bsome, s_l1Texts (by have := hs.n1; have := hs.d1; rw [fsBlocks_len]; omega), bsome, cond_tb]
    exact wp_if (fun he => absurd ⟨_, hs, he⟩ hE) (fun _ => fin)
   ·rw [Sum.elim_inr]; exact fin
/-! ### Mounting -/
noncomputable def mountF (d : DiskD) : FsD × Bool := open Classical in
 if Homed d ((d.sectors.length / 2 : Nat) : Int) ∧ (fsOf (homeOf (recover d (d.sectors.length / 2)) ((d.sectors.length / 2 : Nat) : Int))).2 = true ∧ FsOk (fsOf (homeOf (recover d (d.sectors.length / 2)) ((d.sectors.length / 2 : Nat) : Int))).1 then
  ((fsOf (homeOf (recover d (d.sectors.length / 2)) ((d.sectors.length / 2 : Nat) : Int))).1, true) else (fsZ, false)
theorem mount_ok {d : DiskD} (h : (mountF d).2 = true) : ShapeOk (mountF d).1 := by
 unfold mountF at h ⊢
 split at h
 ·rename_i h1
  rw [if_pos h1]
  exact fsOf_ok h1.2.1
 ·cases h
theorem home_ok {d : DiskD} {n : Nat} (h : Homed d (n : Int)) : (homeOf d (n : Int)).length ≤ 1000 ∧ SecOk (homeOf d (n : Int)) := by
 unfold homeOf
 rw [if_pos h]
 have := h.1.n1
 refine ⟨by simp; omega, fun i s hi => ?_⟩
 rw [List.getElem?_drop] at hi
 exact h.1.sec _ s hi
theorem quo_two {n : Nat} (h : n ≤ 4000000000) : iop .quo .i64 (n : Int) 2 = ((n / 2 : Nat) : Int) := by
 rw [iquo (by omega) (by omega) (by omega)]; omega
theorem i_Mount (d : DiskD) (hd : d.sectors.length ≤ 4000000000) : iMount d = some (mountF d) := by
 refine wp_eq ?_
 unfold iMount mountF
 simp only [PN, quo_two hd, i_homed]
 refine wp_if (fun h => ?_) (fun h => wp_some (by rw [if_neg fun hh => h hh.1]; rfl))
 have h2 := recover_ok h
 have h3 := home_ok h2
 rw [i_Recover h, bsome, i_HomeOf rfl, bsome, i_FsOf h3.1 h3.2, bsome]
 refine wp_cond (fun hb => ?_) (fun hb => wp_some (by rw [if_neg fun hh => by rw [hb] at hh; exact absurd hh.2.1 (by simp)]; rfl))
 rw [i_FsOk, bsome, cond_tb]
 exact wp_if (fun hF => wp_some (by rw [if_pos ⟨h, hb, hF⟩])) (fun hF => wp_some (by rw [if_neg fun hh => hF hh.2.2]; rfl))
theorem s_Mount (d : DiskD) (hd : d.sectors.length ≤ 4000000000) : sMount d = some (mountF d) := by
 refine wp_eq ?_
 unfold sMount mountF
 simp only [PN, quo_two hd, s_l4Ok]
 refine wp_if (fun h => ?_) (fun h => wp_some (by rw [if_neg fun hh => h hh.1]; rfl))
 have h2 := recover_ok h
 have h3 := home_ok h2
 rw [s_Recover h, bsome, s_HomeOf rfl, bsome, s_FsOf h3.1 h3.2, bsome]
 refine wp_cond (fun hb => ?_) (fun hb => wp_some (by rw [if_neg fun hh => by rw [hb] at hh; exact absurd hh.2.1 (by simp)]; rfl))
 rw [s_FsOk, bsome, cond_tb]
 exact wp_if (fun hF => wp_some (by rw [if_pos ⟨h, hb, hF⟩])) (fun hF => wp_some (by rw [if_neg fun hh => hF hh.2.2]; rfl))
end Go.Ar
end
section
namespace Go.Ar
open Go.Proofs
set_option linter.unusedVariables false
set_option linter.unusedSimpArgs false
set_option maxRecDepth 20000
theorem MkB.of {k : Int} {n s : Nat} (h : n ≤ 8 * s) (h0 : 0 ≤ k) (h1 : k + 8 * s ≤ 1099511627776) : MkB k n := ⟨h0, by omega⟩
end Go.Ar
end
section
namespace Go.Ar
open Go.Proofs
set_option linter.unusedVariables false
set_option linter.unusedSimpArgs false
set_option maxRecDepth 20000
theorem sumS_le {α : Type} (g : α → Nat) (n : Nat) : ∀ l : List α, (∀ x ∈ l, g x ≤ n) → sumS g l ≤ n * l.length
 | [], _ => by simp [sumS]
 | x :: l, h => by
  have h1 := h x (by simp)
  have h2 := sumS_le g n l fun y hy => h y (by simp [hy])
  simp only [sumS, List.map_cons, List.sum_cons, List.length_cons, Nat.mul_add] at h2 ⊢
  omega
theorem shape_size {f : FsD} (hs : ShapeOk f) : sizeFs f ≤ 4000000 := by
 have hn := hs.n1
 have hd := hs.d1
 have h1 : sumS sizeNode f.nodes ≤ 100 * f.nodes.length := sumS_le _ _ _ fun n hn => by
  obtain ⟨i, hi⟩ := List.mem_iff_getElem?.1 hn
  have := (hs.nodes i n hi).len
  have := sumS_le szInt 10 n.blocks (fun x _ => by unfold szInt; omega)
  unfold sizeNode szL
  omega
 have h2 : sumS List.length f.data ≤ 16 * f.data.length := sumS_le _ _ _ fun s h => by
  obtain ⟨k, hk⟩ := List.mem_iff_getElem?.1 h
  exact (hs.data k s hk).1
 unfold sizeFs szL
 omega
theorem mount_size (d : DiskD) : sizeFs (mountF d).1 ≤ 4000000 := by
 cases h : (mountF d).2 with
 | true => exact shape_size (mount_ok h)
 | false =>
  have : (mountF d).1 = fsZ := by
   unfold mountF at h ⊢
   split
   ·rename_i h1
    rw [if_pos h1] at h
    cases h
   ·rfl
  rw [this]
  simp [fsZ, sizeFs, szL, sumS]
end Go.Ar
end
