import Derived.Test.YtjfhbbjcpbfncaaArKaD
import Derived.Test.YtjfhbbjcpbfncaaArPk
namespace Go.Ar
open Go.Proofs
set_option linter.unusedVariables false
set_option linter.unusedSimpArgs false
set_option maxRecDepth 20000

/-! ### Nodes -/
theorem i_within (n lo hi : Int) : iwithin n lo hi = some (tb (lo ≤ n ∧ n ≤ hi)) := by
  unfold iwithin; simp only [PN]
  by_cases h : lo ≤ n
  · rw [if_pos h]; exact tb_some ⟨fun h2 => ⟨h, h2⟩, fun h2 => h2.2⟩
  · rw [if_neg h]; exact some_tb (iff_of_false (by simp) (fun h2 => h h2.1))
theorem s_l1In (n lo hi : Int) : sl1In n lo hi = some (tb (lo ≤ n ∧ n ≤ hi)) := i_within n lo hi
def blocksFor (n : Int) : Int := if n ≤ 0 then 0 else if 80 < n then 5 else (n + 15) / 16
theorem blocksFor_le (n : Int) : 0 ≤ blocksFor n ∧ blocksFor n ≤ 5 := by unfold blocksFor; split <;> (try split) <;> omega
theorem quo_16 {n : Int} (h : 0 < n) (h1 : n ≤ 1000) : iop .quo .i64 (iop .sub .i64 (iop .add .i64 n 16) 1) 16 = (n + 15) / 16 := by
  rw [iadd (by omega), isub (by omega), iquo (by omega) (by omega) (by omega)]
  rw [show n + 16 - 1 = n + 15 by omega]
theorem i_BlocksFor (n : Int) : iBlocksFor n = some (blocksFor n) := by
  unfold iBlocksFor blocksFor; simp only [PN]
  by_cases h : n ≤ 0
  · rw [if_pos h, if_pos h]
  · rw [if_neg h, if_neg h]
    by_cases h2 : 80 < n
    · rw [if_pos h2, if_pos h2]
    · rw [if_neg h2, if_neg h2, quo_16 (by omega) (by omega)]
theorem s_BlocksFor (n : Int) : sBlocksFor n = some (blocksFor n) := by
  unfold sBlocksFor blocksFor; simp only [PN]
  by_cases h : n ≤ 0
  · rw [if_pos h, if_pos h]
  · rw [if_neg h, if_neg h]
    by_cases h2 : 80 ≤ n
    · rw [if_pos h2]
      split
      · rfl
      · obtain rfl : n = 80 := by omega
        rfl
    · rw [if_neg h2, if_neg (by omega), quo_16 (by omega) (by omega)]
theorem g_Contains {l : List Int} (hl : l.length < 4611686018427387904) (x : Int) : gslices_Contains_int l x = some (tb (x ∈ l)) := by
  unfold gslices_Contains_int gslices_Index_int; simp only [PN]
  rw [bnd_assoc]
  refine bnd_first (fun i : Nat => (i : Int)) l (fun i y => ¬ x = y) (fun i _ => .inr (i : Int)) (.inl ()) rfl (fun i y hy _ h => ?_) (fun i y hy _ h => ?_) (fun h => ?_) (fun h => ?_) (fun k y hy hn hj => ?_)
  · have := len_lt hy
    rw [if_pos (by omega), gt_ok hy, bsome, if_neg h, ir_add1 (by omega)]
  · have := len_lt hy
    rw [if_pos (by omega), gt_ok hy, bsome, if_pos (Classical.not_not.1 h)]
  · rw [if_neg (by omega)]
  · exact tb_some (iff_of_false (by omega) fun h2 => by
      obtain ⟨i, hi⟩ := List.mem_iff_getElem?.1 h2
      exact h i x hi rfl)
  · obtain rfl := Classical.not_not.1 hn
    exact tb_some (iff_of_true (by omega) (List.mem_of_getElem? hy))
theorem s_l1Has {l : List Int} (hl : l.length < 4611686018427387904) (x : Int) : sl1Has l x = some (tb (x ∈ l)) := by
  unfold sl1Has; simp only [PN]
  refine bnd_first (fun i : Nat => (i : Int)) l (fun i y => ¬ y = x) (fun _ _ => .inr true) (.inl ()) rfl (fun i y hy _ h => ?_) (fun i y hy _ h => ?_) (fun h => ?_) (fun h => ?_) (fun k y hy hn hj => ?_)
  · have := len_lt hy
    rw [if_pos (by omega), gt_ok hy, bsome, if_neg h, ir_add1 (by omega)]
  · have := len_lt hy
    rw [if_pos (by omega), gt_ok hy, bsome, if_pos (Classical.not_not.1 h)]
  · rw [if_neg (by omega)]
  · refine some_tb (iff_of_false (by simp) fun h2 => ?_)
    obtain ⟨i, hi⟩ := List.mem_iff_getElem?.1 h2
    exact h i x hi rfl
  · obtain rfl := Classical.not_not.1 hn
    exact some_tb (iff_of_true rfl (List.mem_of_getElem? hy))
def BlocksOk (l : List Int) : Prop := ∀ i b, l[i]? = some b → (0 ≤ b ∧ b ≤ 35) ∧ ¬ b ∈ l.take i
def NodeOk (n : NodeD) : Prop :=
  (n.kind = 0 ∧ n.gen = 0 ∧ n.time = 0 ∧ n.size = 0 ∧ (n.blocks.length : Int) = 0) ∨
  (¬ n.kind = 0 ∧ (1 ≤ n.kind ∧ n.kind ≤ 3) ∧ (0 ≤ n.gen ∧ n.gen ≤ 1000000) ∧ (0 ≤ n.time ∧ n.time ≤ 100000) ∧ (0 ≤ n.size ∧ n.size ≤ 80) ∧
    (n.kind = 2 → n.gen = 0 ∧ n.time = 0) ∧ (n.blocks.length : Int) = blocksFor n.size ∧ BlocksOk n.blocks)
theorem NodeOk.len {n : NodeD} (h : NodeOk n) : n.blocks.length ≤ 5 := by
  have := blocksFor_le n.size
  rcases h with h | h
  · omega
  · omega
theorem NodeOk.blk {n : NodeD} (h : NodeOk n) : BlocksOk n.blocks := by
  rcases h with h | h
  · intro i b hb; have := len_lt hb; omega
  · exact h.2.2.2.2.2.2.2
theorem i_blocks {l : List Int} (hl : l.length ≤ 5) {α : Type} {K : Unit ⊕ Bool → Option α} : bnd (lp (σ := Int) (ρ := (Unit) ⊕ (Bool)) (fun s48 =>
  cond (icmp .lss s48 (ln l)) (
  bnd (gt l s48) fun y49 =>
  bnd (iwithin y49 0 35) fun r50 =>
  cond r50 (
  ck (InS 0 s48 (ln l)) <|
  bnd (gslices_Contains_int (sb l 0 s48) y49) fun r51 =>
  cond r51 (
  some (.inr (.inr (false)))) (
  some (.inl (iop .add .i64 s48 1)))) (
  some (.inr (.inr (false))))) (
  some (.inr (.inl ())))) 0) K = @ite _ (BlocksOk l) (Classical.propDecidable _) (K (.inl ())) (K (.inr false)) := by
  refine bnd_lp (lp_allL (fun i : Nat => (i : Int)) l (fun i b => (0 ≤ b ∧ b ≤ 35) ∧ ¬ b ∈ l.take i) (.inr false) (.inl ()) rfl (fun i y hy _ h => ?_) (fun i y hy _ h => ?_) (fun h => ?_)) ?_
  · have := len_lt hy
    simp only [PN, gt_ok hy, i_within]
    rw [if_pos (by omega), if_pos h.1, ck_in (ins (by omega)), sb_to, g_Contains (by simp; omega)]
    simp only [PN]
    rw [if_neg h.2, ir_add1 (by omega)]
  · have := len_lt hy
    simp only [PN, gt_ok hy, i_within]
    rw [if_pos (by omega)]
    by_cases h1 : 0 ≤ y ∧ y ≤ 35
    · rw [if_pos h1, ck_in (ins (by omega)), sb_to, g_Contains (by simp; omega)]
      simp only [PN]
      rw [if_pos (Classical.not_not.1 fun hn => h ⟨h1, hn⟩)]
    · rw [if_neg h1]
  · simp only [PN]
    rw [if_neg (by omega)]
  · unfold BlocksOk; split <;> rfl
theorem i_NodeOk (n : NodeD) : iNodeOk n = some (tb (NodeOk n)) := by
  unfold iNodeOk
  have hb := blocksFor_le n.size
  by_cases hl : (n.blocks.length : Int) = blocksFor n.size
  · rw [i_blocks (by omega)]
    simp only [PN, i_within, i_BlocksFor, bite, Sum.elim_inl, Sum.elim_inr]
    unfold NodeOk
    refine if_2 (fun h0 => ?_) (fun h0 => ?_)
    · refine if_tb (fun h1 => if_tb (fun h2 => if_tb (fun h3 => tb_some ?_) ?_) ?_) ?_ <;> omega
    · refine if_tb (fun h1 => if_tb (fun h2 => if_tb (fun h3 => if_tb (fun h4 => ?_) ?_) ?_) ?_) ?_
      · refine if_2 (fun h5 => if_tbn (fun h6 => ?_) (fun h6 => if_tbn (fun h7 => ?_) (fun h7 => if_tbn (fun h8 => ?_) (fun h8 => if_2 (fun h9 => ?_) (fun h9 => ?_))))) (fun h5 => if_tbn (fun h8 => ?_) (fun h8 => if_2 (fun h9 => ?_) (fun h9 => ?_)))
        · rintro (h | h) <;> omega
        · rintro (h | h) <;> omega
        · rintro (h | h) <;> omega
        · exact some_tb (iff_of_true rfl (.inr ⟨h0, h1, h2, h3, h4, by omega, hl, h9⟩))
        · exact some_tb (iff_of_false (by simp) (fun h => h.elim (fun h => h0 h.1) (fun h => h9 h.2.2.2.2.2.2.2)))
        · rintro (h | h) <;> omega
        · exact some_tb (iff_of_true rfl (.inr ⟨h0, h1, h2, h3, h4, by omega, hl, h9⟩))
        · exact some_tb (iff_of_false (by simp) (fun h => h.elim (fun h => h0 h.1) (fun h => h9 h.2.2.2.2.2.2.2)))
      all_goals (intro hn; rintro (h | h) <;> omega)
  · simp only [PN, i_within, i_BlocksFor, bite, Sum.elim_inl, Sum.elim_inr]
    unfold NodeOk
    refine if_2 (fun h0 => ?_) (fun h0 => ?_)
    · refine if_tb (fun h1 => if_tb (fun h2 => if_tb (fun h3 => tb_some ?_) ?_) ?_) ?_ <;> omega
    · refine if_tb (fun h1 => if_tb (fun h2 => if_tb (fun h3 => if_tb (fun h4 => ?_) ?_) ?_) ?_) ?_
      · refine if_2 (fun h5 => if_tbn (fun h6 => ?_) (fun h6 => if_tbn (fun h7 => ?_) (fun h7 => if_tbn (fun h8 => ?_) (fun h8 => absurd hl h8)))) (fun h5 => if_tbn (fun h8 => ?_) (fun h8 => absurd hl h8)) <;> (rintro (h | h) <;> omega)
      all_goals (intro hn; rintro (h | h) <;> omega)
theorem s_blocks {l : List Int} (hl : l.length ≤ 5) {α : Type} {K : Unit ⊕ Bool → Option α} : bnd (lp (σ := Int) (ρ := (Unit) ⊕ (Bool)) (fun s45 =>
  cond (icmp .lss s45 (ln l)) (
  bnd (gt l s45) fun y46 =>
  bnd (sl1In y46 0 35) fun r47 =>
  cond r47 (
  ck (InS 0 s45 (ln l)) <|
  bnd (sl1Has (sb l 0 s45) y46) fun r48 =>
  cond r48 (
  some (.inr (.inr (false)))) (
  some (.inl (iop .add .i64 s45 1)))) (
  some (.inr (.inr (false))))) (
  some (.inr (.inl ())))) 0) K = @ite _ (BlocksOk l) (Classical.propDecidable _) (K (.inl ())) (K (.inr false)) := by
  refine bnd_lp (lp_allL (fun i : Nat => (i : Int)) l (fun i b => (0 ≤ b ∧ b ≤ 35) ∧ ¬ b ∈ l.take i) (.inr false) (.inl ()) rfl (fun i y hy _ h => ?_) (fun i y hy _ h => ?_) (fun h => ?_)) ?_
  · have := len_lt hy
    simp only [PN, gt_ok hy, s_l1In]
    rw [if_pos (by omega), if_pos h.1, ck_in (ins (by omega)), sb_to, s_l1Has (by simp; omega)]
    simp only [PN]
    rw [if_neg h.2, ir_add1 (by omega)]
  · have := len_lt hy
    simp only [PN, gt_ok hy, s_l1In]
    rw [if_pos (by omega)]
    by_cases h1 : 0 ≤ y ∧ y ≤ 35
    · rw [if_pos h1, ck_in (ins (by omega)), sb_to, s_l1Has (by simp; omega)]
      simp only [PN]
      rw [if_pos (Classical.not_not.1 fun hn => h ⟨h1, hn⟩)]
    · rw [if_neg h1]
  · simp only [PN]
    rw [if_neg (by omega)]
  · unfold BlocksOk; split <;> rfl
theorem s_NodeOk (n : NodeD) : sNodeOk n = some (tb (NodeOk n)) := by
  unfold sNodeOk
  have hb := blocksFor_le n.size
  by_cases hl : (n.blocks.length : Int) = blocksFor n.size
  · rw [s_blocks (by omega)]
    simp only [PN, s_l1In, s_BlocksFor, bite, Sum.elim_inl, Sum.elim_inr]
    unfold NodeOk
    refine if_2 (fun h0 => ?_) (fun h0 => ?_)
    · refine if_tb (fun h1 => if_tb (fun h2 => if_tb (fun h3 => tb_some ?_) ?_) ?_) ?_ <;> omega
    · refine if_tb (fun h1 => if_tb (fun h2 => if_tb (fun h3 => if_tb (fun h4 => if_tbn (fun h8 => absurd hl h8) (fun h8 => ?_)) ?_) ?_) ?_) ?_
      · refine if_2 (fun h5 => if_tbn (fun h6 => ?_) (fun h6 => if_tbn (fun h7 => ?_) (fun h7 => if_2 (fun h9 => ?_) (fun h9 => ?_)))) (fun h5 => if_2 (fun h9 => ?_) (fun h9 => ?_))
        · rintro (h | h) <;> omega
        · rintro (h | h) <;> omega
        · exact some_tb (iff_of_true rfl (.inr ⟨h0, h1, h2, h3, h4, by omega, hl, h9⟩))
        · exact some_tb (iff_of_false (by simp) (fun h => h.elim (fun h => h0 h.1) (fun h => h9 h.2.2.2.2.2.2.2)))
        · exact some_tb (iff_of_true rfl (.inr ⟨h0, h1, h2, h3, h4, by omega, hl, h9⟩))
        · exact some_tb (iff_of_false (by simp) (fun h => h.elim (fun h => h0 h.1) (fun h => h9 h.2.2.2.2.2.2.2)))
      all_goals (intro hn; rintro (h | h) <;> omega)
  · simp only [PN, s_l1In, s_BlocksFor, bite, Sum.elim_inl, Sum.elim_inr]
    unfold NodeOk
    refine if_2 (fun h0 => ?_) (fun h0 => ?_)
    · refine if_tb (fun h1 => if_tb (fun h2 => if_tb (fun h3 => tb_some ?_) ?_) ?_) ?_ <;> omega
    · refine if_tb (fun h1 => if_tb (fun h2 => if_tb (fun h3 => if_tb (fun h4 => if_tbn (fun h8 => ?_) (fun h8 => absurd hl h8)) ?_) ?_) ?_) ?_
      all_goals (intro hn; first | (rcases hn with h | h <;> omega) | (rintro (h | h) <;> omega))
/-! ### Encoded numbers -/
def putNat (n : Nat) : List UInt8 := if n < 128 then [UInt8.ofNat n] else UInt8.ofNat (n % 128 + 128) :: putNat (n / 128)
theorem putNat_lt {n : Nat} (h : n < 128) : putNat n = [UInt8.ofNat n] := by rw [putNat, if_pos h]
theorem putNat_ge {n : Nat} (h : 128 ≤ n) : putNat n = UInt8.ofNat (n % 128 + 128) :: putNat (n / 128) := by rw [putNat, if_neg (by omega)]
theorem putNat_len {n : Nat} (h : n ≤ 2147483647) : (putNat n).length ≤ 5 := by
  have h1 : ∀ m, m < 128 → (putNat m).length ≤ 1 := fun m hm => by rw [putNat_lt hm]; simp
  have h2 : ∀ k m, (∀ x, x < k → (putNat x).length ≤ m) → ∀ x, x < k * 128 → (putNat x).length ≤ m + 1 := by
    intro k m hk x hx
    by_cases hx2 : x < 128
    · have := h1 x hx2; omega
    · rw [putNat_ge (by omega)]
      have := hk (x / 128) (by omega)
      simp; omega
  exact h2 _ 4 (h2 _ 3 (h2 _ 2 (h2 _ 1 h1))) n (by omega)
noncomputable def putNum (n : Int) : List UInt8 := if 0 ≤ n ∧ n ≤ 2147483647 then putNat n.toNat else []
theorem putNum_len (n : Int) : (putNum n).length ≤ 5 := by
  unfold putNum; split
  · exact putNat_len (by omega)
  · simp
theorem n_rem128 {m : Nat} (h : m ≤ 2147483647) : i2b (wrp .u8 (iop .add .i64 (iop .rem .i64 (m : Int) 128) 128)) = UInt8.ofNat (m % 128 + 128) := by
  rw [irem (by omega), iadd (by omega), wrp_eq, i2b_eq]
  congr 1
  simp only [IntKind.wrap, IntKind.bits, IntKind.signed]
  simp; omega
theorem n_quo128 {m : Nat} (h : m ≤ 2147483647) : iop .quo .i64 (m : Int) 128 = ((m / 128 : Nat) : Int) := by
  rw [iquo (by omega) (by omega) (by omega)]; omega
theorem n_wrp8 {m : Nat} (h : m < 128) : i2b (wrp .u8 (m : Int)) = UInt8.ofNat m := by
  rw [wrp_eq, i2b_eq]
  congr 1
  simp only [IntKind.wrap, IntKind.bits, IntKind.signed]
  simp; omega
theorem n_and127 {m : Nat} (h : m ≤ 2147483647) : iop .and .i64 (m : Int) 127 = ((m % 128 : Nat) : Int) := by
  rw [iop_eq]
  show IntKind.i64.wrap ((BitVec.ofInt 64 (m : Int) &&& BitVec.ofInt 64 127).toNat : Int) = _
  have e : (BitVec.ofInt 64 (m : Int) &&& BitVec.ofInt 64 127).toNat = m % 128 := by
    rw [BitVec.toNat_and]
    have e1 : (BitVec.ofInt 64 (m : Int)).toNat = m := by simp [BitVec.toNat_ofInt]; omega
    have e2 : (BitVec.ofInt 64 127).toNat = 2 ^ 7 - 1 := by decide
    rw [e1, e2, Nat.and_two_pow_sub_one_eq_mod]
  rw [e, w64 (by omega)]
theorem n_or128 {m : Nat} (h : m < 128) : iop .or .i64 (m : Int) 128 = ((m + 128 : Nat) : Int) := by
  rw [iop_eq]
  show IntKind.i64.wrap ((BitVec.ofInt 64 (m : Int) ||| BitVec.ofInt 64 128).toNat : Int) = _
  have e : (BitVec.ofInt 64 (m : Int) ||| BitVec.ofInt 64 128).toNat = m + 128 := by
    rw [BitVec.toNat_or]
    have e1 : (BitVec.ofInt 64 (m : Int)).toNat = m := by simp [BitVec.toNat_ofInt]; omega
    have e2 : (BitVec.ofInt 64 128).toNat = 2 ^ 7 := by decide
    rw [e1, e2, Nat.or_comm]
    have := Nat.two_pow_add_eq_or_of_lt (i := 7) (b := m) (by omega) 1
    rw [Nat.mul_one] at this
    omega
  rw [e, w64 (by omega)]
theorem n_low128 {m : Nat} (h : m ≤ 2147483647) : i2b (wrp .u8 (iop .or .i64 (iop .and .i64 (m : Int) 127) 128)) = UInt8.ofNat (m % 128 + 128) := by
  rw [n_and127 h, n_or128 (by omega), wrp_eq, i2b_eq]
  congr 1
  simp only [IntKind.wrap, IntKind.bits, IntKind.signed]
  simp; omega
theorem n_shr128 {m : Nat} (h : m ≤ 2147483647) : iop .shr .i64 (m : Int) 7 = ((m / 128 : Nat) : Int) := by
  rw [show (7 : Int) = ((7 : Nat) : Int) from rfl, ishr 7 (by omega) (by omega)]; omega
theorem i_PutNum (n : Int) : iPutNum n = some (putNum n) := by
  unfold iPutNum putNum
  simp only [i_within, PN]
  refine if_2 (fun h => ?_) (fun h => by rw [if_neg h])
  rw [if_pos h]
  refine bnd_inv (fun s => s.1.toNat) (fun s => ∃ m : Nat, s.1 = (m : Int) ∧ m ≤ 2147483647 ∧ s.2 ++ putNat m = putNat n.toNat) (fun r => ∃ m : Nat, r.1 = (m : Int) ∧ m < 128 ∧ r.2 ++ [UInt8.ofNat m] = putNat n.toNat) ?_ ⟨n.toNat, by simp; omega, by omega, rfl⟩ ?_
  · rintro ⟨a, p⟩ ⟨m, h1, h2, h3⟩
    dsimp only at h1 h2 h3 ⊢
    subst h1
    have hl := congrArg List.length h3
    have hl2 := putNat_len (show n.toNat ≤ 2147483647 by omega)
    rw [List.length_append] at hl
    by_cases hm : 128 ≤ m
    · refine .inl ⟨((m / 128 : Nat), p ++ [UInt8.ofNat (m % 128 + 128)]), ?_, ⟨m / 128, rfl, by omega, ?_⟩, by dsimp only; omega⟩
      · rw [if_pos (by omega), ck_in (room (by omega) (by omega)), n_low128 h2, n_shr128 h2]
      · rw [← h3, putNat_ge hm]; simp
    · refine .inr ⟨((m : Int), p), by rw [if_neg (by omega)], m, rfl, by omega, ?_⟩
      rw [← h3, putNat_lt (by omega)]
  · rintro ⟨a, p⟩ ⟨m, h1, h2, h3⟩
    dsimp only at h1 h2 h3 ⊢
    subst h1
    have hl := congrArg List.length h3
    have hl2 := putNat_len (show n.toNat ≤ 2147483647 by omega)
    rw [List.length_append] at hl
    rw [ck_in (room (by omega) (by omega)), n_wrp8 h2, h3]
theorem s_PutNum (n : Int) : sPutNum n = some (putNum n) := by
  unfold sPutNum putNum
  simp only [s_l1In, PN]
  refine if_2 (fun h => ?_) (fun h => by rw [if_neg h])
  rw [if_pos h]
  refine bnd_inv (fun s => s.1.toNat) (fun s => ∃ m : Nat, s.1 = (m : Int) ∧ m ≤ 2147483647 ∧ s.2 ++ putNat m = putNat n.toNat) (fun r => ∃ m : Nat, r.1 = (m : Int) ∧ m < 128 ∧ r.2 ++ [UInt8.ofNat m] = putNat n.toNat) ?_ ⟨n.toNat, by simp; omega, by omega, rfl⟩ ?_
  · rintro ⟨a, p⟩ ⟨m, h1, h2, h3⟩
    dsimp only at h1 h2 h3 ⊢
    subst h1
    have hl := congrArg List.length h3
    have hl2 := putNat_len (show n.toNat ≤ 2147483647 by omega)
    rw [List.length_append] at hl
    by_cases hm : 128 ≤ m
    · refine .inl ⟨((m / 128 : Nat), p ++ [UInt8.ofNat (m % 128 + 128)]), ?_, ⟨m / 128, rfl, by omega, ?_⟩, by dsimp only; omega⟩
      · rw [if_pos (by omega), ck_in (room (by omega) (by omega)), n_rem128 h2, n_quo128 h2]
      · rw [← h3, putNat_ge hm]; simp
    · refine .inr ⟨((m : Int), p), by rw [if_neg (by omega)], m, rfl, by omega, ?_⟩
      rw [← h3, putNat_lt (by omega)]
  · rintro ⟨a, p⟩ ⟨m, h1, h2, h3⟩
    dsimp only at h1 h2 h3 ⊢
    subst h1
    have hl := congrArg List.length h3
    have hl2 := putNat_len (show n.toNat ≤ 2147483647 by omega)
    rw [List.length_append] at hl
    rw [ck_in (room (by omega) (by omega)), n_wrp8 h2, h3]

/-! ### The text of a node -/
noncomputable def kindB (k : Int) : UInt8 := i2b (wrp .u8 k)
noncomputable def nodeText (n : NodeD) : List UInt8 := open Classical in
  if NodeOk n then (if n.kind = 0 then [kindB n.kind] else [kindB n.kind] ++ putNum n.gen ++ putNum n.time ++ putNum n.size ++ n.blocks.flatMap putNum) else []
theorem nodeText_len (n : NodeD) : (nodeText n).length ≤ 41 := by
  unfold nodeText
  split
  · rename_i h
    split
    · simp
    · have h1 := flatMap_len putNum 5 n.blocks fun x _ => putNum_len x
      have h2 := h.len
      have := putNum_len n.gen
      have := putNum_len n.time
      have := putNum_len n.size
      simp only [List.length_append, List.length_cons, List.length_nil]
      omega
  · simp
theorem flat_take_le {α β : Type} (g : α → List β) (n : Nat) (h : ∀ x, (g x).length ≤ n) (l : List α) (i : Nat) : ((l.take i).flatMap g).length ≤ n * l.length := by
  have h1 := flatMap_len g n (l.take i) fun x _ => h x
  have : (l.take i).length ≤ l.length := by simp; omega
  exact Nat.le_trans h1 (Nat.mul_le_mul_left n this)
theorem i_NodeText (n : NodeD) : iNodeText n = some (nodeText n) := by
  unfold iNodeText nodeText
  simp only [i_NodeOk, PN, bite]
  refine if_2 (fun h => ?_) (fun h => by rw [if_neg h])
  rw [if_pos h]
  have hl := h.len
  refine if_2 (fun h0 => ?_) (fun h0 => ?_)
  · rw [if_neg h0, ck_in (room (by omega) (by omega))]
    refine bnd_flat (fun i b => (b, (i : Int))) putNum ([n.gen, n.time, n.size] ++ n.blocks) [kindB n.kind] ([kindB n.kind] ++ ([n.gen, n.time, n.size] ++ n.blocks).flatMap putNum) rfl (fun i x hx => ?_) ?_ ?_
    · have h1 := len_lt hx
      have h2 := flat_take_le putNum 5 putNum_len ([n.gen, n.time, n.size] ++ n.blocks) i
      have h3 := putNum_len x
      simp only [List.length_append, List.length_cons, List.length_nil] at h1 h2
      dsimp only
      rw [if_pos (by simp only [List.length_append, List.length_cons, List.length_nil]; omega), gt_ok hx, bsome, i_PutNum, bsome,
        ck_in (room (by omega) (by simp only [List.length_append, List.length_cons, List.length_nil]; omega)), ir_add1 (by omega)]
    · dsimp only
      rw [if_neg (by omega)]
    · simp
  · rw [if_pos (Classical.not_not.1 h0)]; rfl
theorem s_NodeText (n : NodeD) : sNodeText n = some (nodeText n) := by
  unfold sNodeText nodeText
  simp only [s_NodeOk, s_PutNum, PN, bite]
  refine if_2 (fun h => ?_) (fun h => by rw [if_neg h])
  rw [if_pos h]
  have hl := h.len
  refine if_2 (fun h0 => ?_) (fun h0 => ?_)
  · rw [if_pos h0]; rfl
  · have k1 := putNum_len n.gen
    have k2 := putNum_len n.time
    have k3 := putNum_len n.size
    rw [if_neg h0, ck_in (room (by omega) (by omega)), ck_in (room (by omega) (by simp; omega)), ck_in (room (by omega) (by simp; omega))]
    refine bnd_flat (fun i b => (b, (i : Int))) putNum n.blocks ([kindB n.kind] ++ putNum n.gen ++ putNum n.time ++ putNum n.size) _ rfl (fun i x hx => ?_) ?_ rfl
    · have h1 := len_lt hx
      have h2 := flat_take_le putNum 5 putNum_len n.blocks i
      have h3 := putNum_len x
      dsimp only
      rw [if_pos (by omega), gt_ok hx, bsome, ck_in (room (by omega) (by simp only [List.length_append, List.length_cons, List.length_nil]; omega)), ir_add1 (by omega)]
    · dsimp only
      rw [if_neg (by omega)]
/-! ### slices.Repeat of one number -/
theorem g_Mul (n : Nat) (h : n ≤ 36) : gmath_bits_Mul (wrp .u64 1) (wrp .u64 (n : Int)) = some (0, (n : Int)) := by
  unfold gmath_bits_Mul gmath_bits_Mul64
  simp only [bsome, wrp_eq, iop_eq]
  obtain ⟨k, rfl⟩ : ∃ k : Fin 37, n = k.val := ⟨⟨n, by omega⟩, rfl⟩
  revert k
  decide +kernel
theorem cpl_rep (n k : Nat) (hk : k ≤ n) : cpl (some ((k : Int), (n : Int))) (List.replicate k (-1 : Int) ++ List.replicate (n - k) 0) (List.replicate k (-1 : Int)) = List.replicate (k + min k (n - k)) (-1 : Int) ++ List.replicate (n - (k + min k (n - k))) 0 := by
  have hl : (List.replicate k (-1 : Int) ++ List.replicate (n - k) 0).length = n := by simp; omega
  have ej : ((List.replicate k (-1 : Int)).take (min n n - k)) = List.replicate (min k (n - k)) (-1) := by
    rw [List.take_replicate, Nat.min_self, Nat.min_comm]
  rw [cpl_eq]
  simp only [vlo, vln, Int.toNat_natCast, hl, ej, List.length_replicate]
  rw [List.take_append_of_le_length (by simp), List.take_of_length_le (by simp), List.replicate_append_replicate, List.drop_append, List.length_replicate, List.drop_replicate, List.drop_replicate]
  rw [show k - (k + min k (n - k)) = 0 by omega, show n - k - (k + min k (n - k) - k) = n - (k + min k (n - k)) by omega]
  rfl
theorem g_Repeat (n : Nat) (hn : n ≤ 36) : gslices_Repeat_int [-1] (n : Int) = some (List.replicate n (-1)) := by
  unfold gslices_Repeat_int
  have e1 : ln [(-1 : Int)] = 1 := by rw [ln_eq]; rfl
  rw [e1, g_Mul n hn]
  simp only [PN]
  have ew : wrp .i64 (n : Int) = n := by rw [wrp_eq, w64 (by omega)]
  rw [if_neg (by omega), if_neg (by omega), if_neg (by omega), ew, ck_in (ins (by omega)), ck_in (room (by omega) (by omega))]
  refine bnd_inv (fun s => n - s.2.toNat) (fun s => ∃ k : Nat, s = (List.replicate k (-1) ++ List.replicate (n - k) 0, (k : Int)) ∧ k ≤ n ∧ (0 < n → 1 ≤ k)) (fun r => r = List.replicate n (-1)) ?_ ?_ (fun r hr => by rw [hr])
  · rintro ⟨a, i⟩ ⟨k, h1, h2, h3⟩
    injection h1 with h1 h1'
    subst h1 h1'
    have hlen : (List.replicate k (-1 : Int) ++ List.replicate (n - k) 0).length = n := by simp; omega
    dsimp only
    rw [hlen]
    by_cases hk : k < n
    · have es : sb (List.replicate k (-1 : Int) ++ List.replicate (n - k) 0) 0 (k : Int) = List.replicate k (-1) := by rw [sb_to, List.take_append_of_le_length (by simp), List.take_of_length_le (by simp)]
      have ec : cpc (some ((k : Int), (n : Int))) (List.replicate k (-1 : Int) ++ List.replicate (n - k) 0) (List.replicate k (-1 : Int)) = ((min k (n - k) : Nat) : Int) := by
        rw [cpc_eq]; simp only [vln, Int.toNat_natCast, hlen, List.length_replicate, Nat.min_self]
      refine .inl ⟨(List.replicate (k + min k (n - k)) (-1) ++ List.replicate (n - (k + min k (n - k))) 0, ((k + min k (n - k) : Nat) : Int)), ?_, ⟨k + min k (n - k), rfl, by omega, by omega⟩, by dsimp only; omega⟩
      rw [if_pos (by omega), ck_in (ins (by omega)), ck_in (ins (by omega)), es, ec, cpl_rep n k h2, iadd (by omega)]
      congr 3
    · refine .inr ⟨_, by rw [if_neg (by omega)], ?_⟩
      obtain rfl : k = n := by omega
      simp
  · refine ⟨min 1 n, ?_, by omega, by omega⟩
    have e2 : rp (n : Int) (0 : Int) = List.replicate n 0 := by rw [rp_eq]; simp
    rw [e2, cpl_eq, cpc_eq]
    simp only [vlo, vln, List.length_replicate, List.take_zero, List.nil_append, List.length_singleton, Nat.zero_add]
    cases n with
    | zero => rfl
    | succ m => rw [show min 1 (m + 1) = 1 by omega]; simp [List.replicate_succ]

/-! ### Whose a block is -/
def blks (l : List NodeD) : List Int := l.flatMap fun n => n.blocks
structure OwnI (d : Nat) (out : List Int) (P : List Int) : Prop where
  len : out.length = d
  rng : ∀ b ∈ P, 0 ≤ b ∧ b < (d : Int)
  nd : P.Nodup
  at_ : ∀ (k : Nat) x, out[k]? = some x → (0 ≤ x ↔ (k : Int) ∈ P)
def GoodB (d : Nat) (P : List Int) : Prop := (∀ b ∈ P, 0 ≤ b ∧ b < (d : Int)) ∧ P.Nodup
theorem GoodB.pre {d : Nat} {P Q : List Int} (h : GoodB d (P ++ Q)) : GoodB d P := ⟨fun b hb => h.1 b (List.mem_append_left _ hb), (List.nodup_append.1 h.2).1⟩
theorem OwnI.good {d : Nat} {out P : List Int} (h : OwnI d out P) : GoodB d P := ⟨h.rng, h.nd⟩
theorem OwnI.step {d : Nat} {out P : List Int} {b : Int} {x i : Int} (h : OwnI d out P) (h0 : 0 ≤ b) (hb : b < (d : Int)) (hx : out[b.toNat]? = some x) (hn : ¬ 0 ≤ x) (hi : 0 ≤ i) : OwnI d (out.set b.toNat i) (P ++ [b]) := by
  have hnb : ¬ b ∈ P := fun hh => hn ((h.at_ b.toNat x hx).2 (by rwa [Int.toNat_of_nonneg h0]))
  refine ⟨by simpa using h.len, fun c hc => ?_, ?_, fun k y hy => ?_⟩
  · rcases List.mem_append.1 hc with hc | hc
    · exact h.rng c hc
    · obtain rfl := List.mem_singleton.1 hc
      exact ⟨h0, hb⟩
  · exact List.nodup_append.2 ⟨h.nd, by simp, fun a ha c hc => by
      obtain rfl := List.mem_singleton.1 hc
      exact fun e => hnb (e ▸ ha)⟩
  · rw [List.getElem?_set] at hy
    split at hy
    · rename_i e
      split at hy
      · cases hy
        exact iff_of_true hi (List.mem_append_right _ (by simp; omega))
      · cases hy
    · rename_i e
      rw [h.at_ k y hy, List.mem_append, List.mem_singleton]
      constructor
      · exact .inl
      · rintro (hh | hh)
        · exact hh
        · omega
theorem rep_own (d : Nat) : OwnI d (List.replicate d (-1)) [] := by
  refine ⟨by simp, (fun b hb => by cases hb), List.nodup_nil, fun k x hx => ?_⟩
  rw [List.getElem?_replicate] at hx
  split at hx
  · cases hx; simp
  · cases hx
theorem blks_take {l : List NodeD} {i : Nat} {n : NodeD} (h : l[i]? = some n) : blks (l.take (i + 1)) = blks (l.take i) ++ n.blocks := by
  unfold blks; rw [take_snoc' h, List.flatMap_append, List.flatMap_singleton]
theorem blks_split {l : List NodeD} {i : Nat} {n : NodeD} (h : l[i]? = some n) : ∃ Q, blks l = blks (l.take i) ++ (n.blocks ++ Q) := by
  refine ⟨blks (l.drop (i + 1)), ?_⟩
  rw [← List.append_assoc, ← blks_take h]
  unfold blks
  rw [← List.flatMap_append, List.take_append_drop]
theorem OwnI.bad1 {d : Nat} {out P Q : List Int} {b : Int} (h : (d : Int) ≤ b) : ¬ GoodB d (P ++ (b :: Q)) := fun hg => by
  have := (hg.1 b (by simp)).2
  omega
theorem OwnI.bad2 {d : Nat} {out P Q : List Int} {b x : Int} (h : OwnI d out P) (h0 : 0 ≤ b) (hx : out[b.toNat]? = some x) (hn : 0 ≤ x) : ¬ GoodB d (P ++ (b :: Q)) := fun hg => by
  have h1 : b ∈ P := by
    have := (h.at_ b.toNat x hx).1 hn
    rwa [Int.toNat_of_nonneg h0] at this
  exact (List.nodup_append.1 hg.2).2.2 b h1 b (by simp) rfl
theorem i_owners (f : FsD) (hd : f.data.length ≤ 36) (hn : f.nodes.length ≤ 10) (hk : ∀ (i : Nat) (n : NodeD), f.nodes[i]? = some n → n.blocks.length ≤ 5 ∧ ∀ b ∈ n.blocks, 0 ≤ b) :
    Wp (fun r : List Int × Bool => (r.2 = true ∧ OwnI f.data.length r.1 (blks f.nodes)) ∨ (r = ([], false) ∧ ¬ GoodB f.data.length (blks f.nodes))) (iowners f) := by
  unfold iowners
  rw [ln_eq, g_Repeat _ hd, bsome]
  simp only [PN]
  refine wp_loop (fun s => f.nodes.length - s.2.toNat) (fun s => ∃ i : Nat, s.2 = (i : Int) ∧ i ≤ f.nodes.length ∧ OwnI f.data.length s.1 (blks (f.nodes.take i)))
    (fun r => (∃ out, r = .inl out ∧ OwnI f.data.length out (blks f.nodes)) ∨ (r = .inr ([], false) ∧ ¬ GoodB f.data.length (blks f.nodes))) ⟨0, rfl, by omega, rep_own _⟩ ?_ ?_
  · rintro ⟨out, j⟩ ⟨i, h1, h2, h3⟩
    dsimp only at h1 h3 ⊢
    subst h1
    refine wp_if (fun hi => ?_) (fun hi => ?_)
    · obtain ⟨n, hnn⟩ := get_some (show i < f.nodes.length by omega)
      obtain ⟨hl, hb0⟩ := hk i n hnn
      obtain ⟨Q, hQ⟩ := blks_split hnn
      rw [gt_ok hnn, bsome]
      refine wp_loop (fun s => n.blocks.length - s.2.toNat) (fun s => ∃ q : Nat, s.2 = (q : Int) ∧ q ≤ n.blocks.length ∧ OwnI f.data.length s.1 (blks (f.nodes.take i) ++ n.blocks.take q))
        (fun r => (∃ o, r = .inl o ∧ OwnI f.data.length o (blks (f.nodes.take (i + 1)))) ∨ (r = .inr (.inr (.inr ([], false))) ∧ ¬ GoodB f.data.length (blks f.nodes))) ⟨0, rfl, by omega, by simpa using h3⟩ ?_ ?_
      · rintro ⟨o, j⟩ ⟨q, g1, g2, g3⟩
        dsimp only at g1 g3 ⊢
        subst g1
        refine wp_if (fun hq => ?_) (fun hq => ?_)
        · obtain ⟨b, hb⟩ := get_some (show q < n.blocks.length by omega)
          have hbb : blks f.nodes = (blks (f.nodes.take i) ++ n.blocks.take q) ++ (b :: (n.blocks.drop (q + 1) ++ Q)) := by
            rw [hQ, List.append_assoc, ← List.cons_append, ← List.append_assoc (n.blocks.take q)]
            congr 2
            rw [← drop_at hb, List.take_append_drop]
          have hb1 := hb0 b (List.mem_of_getElem? hb)
          rw [gt_ok hb, bsome]
          refine wp_if (fun hge => wp_out (.inr ⟨rfl, hbb ▸ OwnI.bad1 (out := o) hge⟩)) (fun hlt => ?_)
          obtain ⟨x, hx⟩ := get_some (l := o) (i := b.toNat) (by rw [g3.len]; omega)
          rw [gtI hb1 hx, bsome]
          refine wp_if (fun hge => wp_out (.inr ⟨rfl, hbb ▸ g3.bad2 hb1 hx hge⟩)) (fun hneg => ?_)
          refine wp_back ⟨q + 1, ?_, by omega, ?_⟩ ?_
          · exact ir_add1 (by omega)
          · dsimp only
            rw [sl_eq, take_snoc' hb, ← List.append_assoc]
            exact g3.step hb1 (by omega) hx hneg (by omega)
          · dsimp only
            rw [ir_add1 (by omega)]; omega
        · refine wp_out (.inl ⟨o, rfl, ?_⟩)
          rw [blks_take hnn]
          rwa [List.take_of_length_le (l := n.blocks) (by omega)] at g3
      · rintro r (⟨o, rfl, ho⟩ | ⟨rfl, hg⟩)
        · refine wp_back ⟨i + 1, ir_add1 (by omega), by omega, ho⟩ ?_
          dsimp only
          rw [ir_add1 (by omega)]; omega
        · exact wp_out (.inr ⟨rfl, hg⟩)
    · refine wp_out (.inl ⟨out, rfl, ?_⟩)
      rwa [List.take_of_length_le (by omega)] at h3
  · rintro r (⟨o, rfl, ho⟩ | ⟨rfl, hg⟩)
    · exact wp_some (.inl ⟨rfl, ho⟩)
    · exact wp_some (.inr ⟨rfl, hg⟩)
/-! ### How often a block is used -/
noncomputable def cnt (p : Int → Prop) (P : List Int) : Nat := open Classical in P.countP fun b => decide (p b)
theorem cnt_nil (p : Int → Prop) : cnt p [] = 0 := rfl
theorem cnt_snoc (p : Int → Prop) (P : List Int) (b : Int) : cnt p (P ++ [b]) = cnt p P + (@ite _ (p b) (Classical.propDecidable _) 1 0) := by
  unfold cnt
  rw [List.countP_append, List.countP_singleton]
  congr 1
  by_cases h : p b <;> simp [h]
theorem cnt_le (p : Int → Prop) (P : List Int) : cnt p P ≤ P.length := List.countP_le_length
theorem cnt_pos (p : Int → Prop) (P : List Int) : 0 < cnt p P ↔ ∃ a ∈ P, p a := by unfold cnt; rw [List.countP_pos_iff]; simp
theorem cnt_cons (p : Int → Prop) (P : List Int) (b : Int) : cnt p (b :: P) = cnt p P + (@ite _ (p b) (Classical.propDecidable _) 1 0) := by
  unfold cnt
  rw [List.countP_cons]
  congr 1
  by_cases h : p b <;> simp [h]
theorem nodup_cnt : ∀ P : List Int, P.Nodup ↔ ∀ k, cnt (fun b => b = k) P ≤ 1
  | [] => by simp [cnt_nil]
  | a :: P => by
    rw [List.nodup_cons, nodup_cnt P]
    constructor
    · rintro ⟨h1, h2⟩ k
      rw [cnt_cons]
      split
      · rename_i e
        subst e
        have : ¬ 0 < cnt (fun b => b = a) P := fun hh => by
          obtain ⟨c, hc, e⟩ := (cnt_pos _ _).1 hh
          exact h1 (e ▸ hc)
        omega
      · exact h2 k
    · intro h
      refine ⟨fun hm => ?_, fun k => ?_⟩
      · have := h a
        rw [cnt_cons, if_pos rfl] at this
        have := (cnt_pos (fun b => b = a) P).2 ⟨a, hm, rfl⟩
        omega
      · have := h k
        rw [cnt_cons] at this
        omega
def Out (d : Nat) (b : Int) : Prop := ¬ (0 ≤ b ∧ b ≤ (d : Int) - 1)
structure UsedI (d : Nat) (u : List Int) (P : List Int) : Prop where
  len : u.length = d + 1
  at_ : ∀ k : Nat, k < d → u[k]? = some ((cnt (fun b => b = (k : Int)) P : Nat) : Int)
  end_ : u[d]? = some ((cnt (Out d) P : Nat) : Int)
theorem UsedI.inn {d : Nat} {u P : List Int} {b : Int} (h : UsedI d u P) (hb : 0 ≤ b ∧ b ≤ (d : Int) - 1) : ∃ y : Nat, u[b.toNat]? = some (y : Int) ∧ y ≤ P.length ∧ UsedI d (u.set b.toNat ((y : Int) + 1)) (P ++ [b]) := by
  refine ⟨_, h.at_ b.toNat (by omega), cnt_le _ _, ⟨by simpa using h.len, fun k hk => ?_, ?_⟩⟩
  · rw [List.getElem?_set, cnt_snoc]
    split
    · rename_i e
      subst e
      rw [if_pos (by rw [h.len]; omega), if_pos (by omega)]
      rfl
    · rename_i e
      rw [if_neg (by omega), Nat.add_zero]
      exact h.at_ k hk
  · rw [List.getElem?_set, if_neg (by omega), cnt_snoc, if_neg (fun hh => hh hb), Nat.add_zero]
    exact h.end_
theorem UsedI.out {d : Nat} {u P : List Int} {b : Int} (h : UsedI d u P) (hb : ¬ (0 ≤ b ∧ b ≤ (d : Int) - 1)) : ∃ y : Nat, u[d]? = some (y : Int) ∧ y ≤ P.length ∧ UsedI d (u.set d ((y : Int) + 1)) (P ++ [b]) := by
  refine ⟨_, h.end_, cnt_le _ _, ⟨by simpa using h.len, fun k hk => ?_, ?_⟩⟩
  · rw [List.getElem?_set, if_neg (by omega), cnt_snoc, if_neg (by omega), Nat.add_zero]
    exact h.at_ k hk
  · rw [List.getElem?_set, if_pos rfl, if_pos (by rw [h.len]; omega), cnt_snoc, if_pos (show Out d b from hb)]
    rfl
theorem rp_used (d : Nat) : UsedI d (rp ((d : Int) + 1) (0 : Int)) [] := by
  rw [rp_eq, show ((d : Int) + 1).toNat = d + 1 by omega]
  refine ⟨by simp, fun k hk => ?_, ?_⟩
  · rw [List.getElem?_replicate, if_pos (by omega), cnt_nil]; rfl
  · rw [List.getElem?_replicate, if_pos (by omega), cnt_nil]; rfl
theorem s_l6Used (f : FsD) (hd : f.data.length ≤ 36) (hn : f.nodes.length ≤ 10) (hk : ∀ (i : Nat) (n : NodeD), f.nodes[i]? = some n → n.blocks.length ≤ 5) :
    Wp (fun u => UsedI f.data.length u (blks f.nodes)) (sl6Used f) := by
  have hbl : (blks f.nodes).length ≤ 5 * f.nodes.length := flatMap_len _ 5 _ fun x hx => by
    obtain ⟨i, hi⟩ := List.mem_iff_getElem?.1 hx
    exact hk i x hi
  unfold sl6Used
  simp only [PN, s_l1In]
  rw [iadd (by omega), isub (by omega)]
  refine wp_ck (ins (by omega)) (wp_ck (room (by omega) (by omega)) ?_)
  refine wp_loop (fun s => f.nodes.length - s.2.toNat) (fun s => ∃ i : Nat, s.2 = (i : Int) ∧ i ≤ f.nodes.length ∧ UsedI f.data.length s.1 (blks (f.nodes.take i)))
    (fun r => UsedI f.data.length r (blks f.nodes)) ⟨0, rfl, by omega, rp_used _⟩ ?_ (fun r hr => wp_some hr)
  rintro ⟨u, j⟩ ⟨i, h1, h2, h3⟩
  dsimp only at h1 h3 ⊢
  subst h1
  refine wp_if (fun hi => ?_) (fun hi => ?_)
  · obtain ⟨n, hnn⟩ := get_some (show i < f.nodes.length by omega)
    have hl := hk i n hnn
    obtain ⟨Q, hQ⟩ := blks_split hnn
    refine wp_loop (fun s => n.blocks.length - s.2.toNat) (fun s => ∃ q : Nat, s.2 = (q : Int) ∧ q ≤ n.blocks.length ∧ UsedI f.data.length s.1 (blks (f.nodes.take i) ++ n.blocks.take q))
      (fun r => UsedI f.data.length r (blks (f.nodes.take (i + 1)))) ⟨0, rfl, by omega, by simpa using h3⟩ ?_ (fun r hr => ?_)
    · rintro ⟨o, j⟩ ⟨q, g1, g2, g3⟩
      dsimp only at g1 g3 ⊢
      subst g1
      rw [gt_ok hnn, bsome]
      refine wp_if (fun hq => ?_) (fun hq => ?_)
      · obtain ⟨b, hb⟩ := get_some (show q < n.blocks.length by omega)
        have hP : (blks (f.nodes.take i) ++ n.blocks.take q).length ≤ 50 := by
          have := congrArg List.length hQ
          simp only [List.length_append, List.length_take] at this ⊢
          omega
        rw [gt_ok hb, bsome]
        refine wp_if (fun hin => ?_) (fun hin => ?_)
        · obtain ⟨y, e1, e2, e3⟩ := g3.inn hin
          rw [gtI hin.1 e1, bsome, sl_eq, iadd (by omega)]
          refine wp_back ⟨q + 1, ir_add1 (by omega), by omega, ?_⟩ ?_
          · dsimp only
            rwa [take_snoc' hb, ← List.append_assoc]
          · dsimp only
            rw [ir_add1 (by omega)]; omega
        · obtain ⟨y, e1, e2, e3⟩ := g3.out hin
          rw [gt_ok e1, bsome, sl_eq, iadd (by omega), Int.toNat_natCast]
          refine wp_back ⟨q + 1, ir_add1 (by omega), by omega, ?_⟩ ?_
          · dsimp only
            rwa [take_snoc' hb, ← List.append_assoc]
          · dsimp only
            rw [ir_add1 (by omega)]; omega
      · refine wp_out ?_
        rw [blks_take hnn]
        rwa [List.take_of_length_le (l := n.blocks) (by omega)] at g3
    · refine wp_back ⟨i + 1, ir_add1 (by omega), by omega, hr⟩ ?_
      dsimp only
      rw [ir_add1 (by omega)]; omega
  · refine wp_out ?_
    rwa [List.take_of_length_le (by omega)] at h3
theorem wp_no {Q : Prop} (h : ¬ Q) : Wp (fun r => r = tb Q) (some false) := wp_some (tb_neg h).symm
theorem wp_yes {Q : Prop} (h : Q) : Wp (fun r => r = tb Q) (some true) := wp_some (tb_pos h).symm

/-! ### ShapeOk -/
def SizesOk (f : FsD) : Prop := ∀ (i : Nat) (n : NodeD), f.nodes[i]? = some n → ∀ (k : Nat) (b : Int), n.blocks[k]? = some b → ∀ s, f.data[b.toNat]? = some s → (s.length : Int) = min (n.size - 16 * (k : Int)) 16
def DataOk (f : FsD) : Prop := ∀ (k : Nat) s, f.data[k]? = some s → s.length ≤ 16 ∧ (¬ (k : Int) ∈ blks f.nodes → s = [])
def NodesOk (l : List NodeD) : Prop := ∀ (i : Nat) (n : NodeD), l[i]? = some n → NodeOk n
structure ShapeOk (f : FsD) : Prop where
  n1 : 2 ≤ f.nodes.length ∧ f.nodes.length ≤ 10
  d1 : 1 ≤ f.data.length ∧ f.data.length ≤ 36
  root : ∀ n, f.nodes[0]? = some n → n.kind = 2
  nodes : NodesOk f.nodes
  good : GoodB f.data.length (blks f.nodes)
  data : DataOk f
  sizes : SizesOk f
theorem g_BadNode {l : List NodeD} (hl : l.length ≤ 10) : gslices_ContainsFunc_Node_109 l = some (tb (¬ NodesOk l)) := by
  unfold gslices_ContainsFunc_Node_109 gslices_IndexFunc_Node_109 iShapeOk_1
  simp only [PN, i_NodeOk]
  rw [bnd_assoc]
  refine bnd_first (fun i : Nat => (i : Int)) l (fun i y => NodeOk y) (fun i _ => .inr (i : Int)) (.inl ()) rfl (fun i y hy _ h => ?_) (fun i y hy _ h => ?_) (fun h => ?_) (fun h => ?_) (fun k y hy hn hj => ?_)
  · have := len_lt hy
    rw [if_pos (by omega), gt_ok hy, bsome, if_neg (fun hh => hh h), ir_add1 (by omega)]
  · have := len_lt hy
    rw [if_pos (by omega), gt_ok hy, bsome, if_pos h]
  · rw [if_neg (by omega)]
  · exact tb_some (iff_of_false (by omega) fun h2 => h2 h)
  · exact tb_some (iff_of_true (by omega) (fun hh => hn (hh k y hy)))
theorem NodesOk.h {l : List NodeD} (h : NodesOk l) : ∀ (i : Nat) (n : NodeD), l[i]? = some n → n.blocks.length ≤ 5 ∧ ∀ b ∈ n.blocks, 0 ≤ b := fun i n hn =>
  ⟨(h i n hn).len, fun b hb => by
    obtain ⟨k, hk⟩ := List.mem_iff_getElem?.1 hb
    exact ((h i n hn).blk k b hk).1.1⟩
theorem NodeOk.size {n : NodeD} (h : NodeOk n) : 0 ≤ n.size ∧ n.size ≤ 80 := by
  rcases h with h | h
  · omega
  · exact h.2.2.2.2.1
theorem blk_mem {l : List NodeD} {i k : Nat} {n : NodeD} {b : Int} (h : l[i]? = some n) (hb : n.blocks[k]? = some b) : b ∈ blks l := by
  unfold blks
  exact List.mem_flatMap.2 ⟨n, List.mem_of_getElem? h, List.mem_of_getElem? hb⟩
theorem i_ShapeOk (f : FsD) : iShapeOk f = some (tb (ShapeOk f)) := by
  refine wp_eq ?_
  unfold iShapeOk
  simp only [PN, i_within]
  refine wp_if (fun hn => ?_) (fun hn => wp_no fun h => hn (by have := h.n1; omega))
  refine wp_if (fun hd => ?_) (fun hd => wp_no fun h => hd (by have := h.d1; omega))
  obtain ⟨n0, hn0⟩ := get_some (l := f.nodes) (i := 0) (by omega)
  rw [gt0 hn0, bsome]
  refine wp_if (fun hk => wp_no fun h => hk (h.root n0 hn0)) (fun hk => ?_)
  rw [g_BadNode (by omega)]
  simp only [PN]
  refine wp_if (fun hb => wp_no fun h => hb h.nodes) (fun hb => ?_)
  have hnd : NodesOk f.nodes := Classical.not_not.1 hb
  refine wp_bnd _ (i_owners f (by omega) (by omega) hnd.h) ?_
  rintro ⟨out, ok⟩ (⟨rfl, ho⟩ | ⟨e, hg⟩)
  · simp only [cond_true]
    refine wp_loop (fun s => f.data.length - s.toNat) (fun s => ∃ i : Nat, s = (i : Int) ∧ i ≤ f.data.length ∧ ∀ (k : Nat) s, k < i → f.data[k]? = some s → s.length ≤ 16 ∧ (¬ (k : Int) ∈ blks f.nodes → s = []))
      (fun r => (r = .inl () ∧ DataOk f) ∨ (r = .inr false ∧ ¬ DataOk f)) ⟨0, rfl, by omega, fun k s hk => by omega⟩ ?_ ?_
    · rintro j ⟨i, rfl, h2, h3⟩
      refine wp_if (fun hi => ?_) (fun hi => wp_out (.inl ⟨rfl, fun k s hs => h3 k s (by have := len_lt hs; omega) hs⟩))
      obtain ⟨s, hs⟩ := get_some (l := f.data) (i := i) (by omega)
      rw [gt_ok hs, bsome]
      refine wp_if (fun hl => wp_out (.inr ⟨rfl, fun h => by have := (h i s hs).1; omega⟩)) (fun hl => ?_)
      obtain ⟨x, hx⟩ := get_some (l := out) (i := i) (by rw [ho.len]; omega)
      rw [gt_ok hx, bsome]
      have hxx := ho.at_ i x hx
      have hstep : (¬ (i : Int) ∈ blks f.nodes → s = []) → Wp (LpO (fun s => f.data.length - s.toNat) (fun s => ∃ i : Nat, s = (i : Int) ∧ i ≤ f.data.length ∧ ∀ (k : Nat) s, k < i → f.data[k]? = some s → s.length ≤ 16 ∧ (¬ (k : Int) ∈ blks f.nodes → s = []))
          (fun r => (r = (Sum.inl () : Unit ⊕ Bool) ∧ DataOk f) ∨ (r = .inr false ∧ ¬ DataOk f)) (i : Int)) (some (.inl (iop .add .i64 (i : Int) 1))) := fun he => by
        refine wp_back ⟨i + 1, ir_add1 (by omega), by omega, fun k s' hk hs' => ?_⟩ (by rw [ir_add1 (by omega)]; omega)
        by_cases e : k = i
        · subst e
          rw [hs] at hs'
          cases hs'
          exact ⟨by omega, he⟩
        · exact h3 k s' (by omega) hs'
      refine wp_if (fun hneg => wp_if (fun hne => wp_out (.inr ⟨rfl, fun h => hne ((h i s hs).2 (fun hm => by have := hxx.2 hm; omega))⟩)) (fun hne => hstep fun _ => Classical.not_not.1 hne)) (fun hpos => hstep fun hm => absurd (hxx.1 (by omega)) hm)
    · rintro r (⟨rfl, hdo⟩ | ⟨rfl, hdo⟩)
      · rw [Sum.elim_inl]
        refine wp_loop (fun s => f.nodes.length - s.toNat) (fun s => ∃ i : Nat, s = (i : Int) ∧ i ≤ f.nodes.length ∧ ∀ (j : Nat) (n : NodeD), j < i → f.nodes[j]? = some n → ∀ (k : Nat) (b : Int), n.blocks[k]? = some b → ∀ s, f.data[b.toNat]? = some s → (s.length : Int) = min (n.size - 16 * (k : Int)) 16)
          (fun r => (r = .inl () ∧ SizesOk f) ∨ (r = .inr false ∧ ¬ SizesOk f)) ⟨0, rfl, by omega, fun k s hk => by omega⟩ ?_ ?_
        · rintro j ⟨i, rfl, h2, h3⟩
          refine wp_if (fun hi => ?_) (fun hi => wp_out (.inl ⟨rfl, fun k s hs => h3 k s (by have := len_lt hs; omega) hs⟩))
          obtain ⟨n, hnn⟩ := get_some (l := f.nodes) (i := i) (by omega)
          rw [gt_ok hnn, bsome]
          have hno := hnd i n hnn
          have hsz := hno.size
          have hbl := hno.len
          refine wp_loop (fun s => n.blocks.length - s.2.toNat) (fun s => ∃ q : Nat, s = (n.size - 16 * (q : Int), (q : Int)) ∧ q ≤ n.blocks.length ∧ ∀ (k : Nat) (b : Int), k < q → n.blocks[k]? = some b → ∀ s, f.data[b.toNat]? = some s → (s.length : Int) = min (n.size - 16 * (k : Int)) 16)
            (fun r => (r = .inl () ∧ ∀ (k : Nat) (b : Int), n.blocks[k]? = some b → ∀ s, f.data[b.toNat]? = some s → (s.length : Int) = min (n.size - 16 * (k : Int)) 16) ∨ (r = .inr (.inr (.inr false)) ∧ ¬ SizesOk f)) ⟨0, by simp, by omega, fun k s hk => by omega⟩ ?_ ?_
          · rintro ⟨a, j⟩ ⟨q, e, g2, g3⟩
            injection e with e1 e2
            subst e1 e2
            dsimp only
            refine wp_if (fun hq => ?_) (fun hq => wp_out (.inl ⟨rfl, fun k b hb => g3 k b (by have := len_lt hb; omega) hb⟩))
            obtain ⟨b, hb⟩ := get_some (l := n.blocks) (i := q) (by omega)
            have hbr := ho.rng b (blk_mem hnn hb)
            obtain ⟨s, hs⟩ := get_some (l := f.data) (i := b.toNat) (by omega)
            rw [gt_ok hb, bsome, gtI hbr.1 hs, bsome, imin_eq]
            refine wp_if (fun hne => wp_out (.inr ⟨rfl, fun h => hne (h i n hnn q b hb s hs)⟩)) (fun he => ?_)
            rw [isub (by omega)]
            refine wp_back ⟨q + 1, ?_, by omega, fun k b' hk hb' s' hs' => ?_⟩ (by dsimp only; rw [ir_add1 (by omega)]; omega)
            · rw [ir_add1 (by omega)]; congr 1; omega
            · by_cases e : k = q
              · subst e
                rw [hb] at hb'; cases hb'
                rw [hs] at hs'; cases hs'
                exact Classical.not_not.1 he
              · exact g3 k b' (by omega) hb' s' hs'
          · rintro r (⟨rfl, ha⟩ | ⟨rfl, hx⟩)
            · refine wp_back ⟨i + 1, ir_add1 (by omega), by omega, fun j n' hj hn' => ?_⟩ (by rw [ir_add1 (by omega)]; omega)
              by_cases e : j = i
              · subst e
                rw [hnn] at hn'; cases hn'
                exact ha
              · exact h3 j n' (by omega) hn'
            · exact wp_out (.inr ⟨rfl, hx⟩)
        · rintro r (⟨rfl, hs⟩ | ⟨rfl, hs⟩)
          · exact wp_yes ⟨by omega, by omega, fun n hn' => by rw [hn0] at hn'; cases hn'; exact Classical.not_not.1 hk, hnd, ho.good, hdo, hs⟩
          · exact wp_no fun h => hs h.sizes
      · exact wp_no fun h => hdo h.data
  · injection e with e1 e2
    subst e2
    simp only [cond_false]
    exact wp_no fun h => hg h.good
/-! ### spec.ShapeOk -/
theorem good_cnt {d : Nat} {P : List Int} : GoodB d P ↔ cnt (Out d) P = 0 ∧ ∀ k : Nat, k < d → cnt (fun b => b = (k : Int)) P ≤ 1 := by
  constructor
  · rintro ⟨h1, h2⟩
    refine ⟨?_, fun k _ => (nodup_cnt P).1 h2 k⟩
    have : ¬ 0 < cnt (Out d) P := fun hh => by
      obtain ⟨a, ha, hn⟩ := (cnt_pos _ _).1 hh
      have := h1 a ha
      exact hn (by omega)
    omega
  · rintro ⟨h1, h2⟩
    have hr : ∀ b ∈ P, 0 ≤ b ∧ b < (d : Int) := fun b hb => Classical.byContradiction fun hn => by
      have := (cnt_pos (Out d) P).2 ⟨b, hb, fun hh => hn (by omega)⟩
      omega
    refine ⟨hr, (nodup_cnt P).2 fun k => ?_⟩
    by_cases hk : 0 ≤ k ∧ k < (d : Int)
    · have := h2 k.toNat (by omega)
      rwa [Int.toNat_of_nonneg hk.1] at this
    · have : ¬ 0 < cnt (fun b => b = k) P := fun hh => by
        obtain ⟨a, ha, e⟩ := (cnt_pos _ _).1 hh
        have := hr a ha
        omega
      omega
theorem s_l1Min (a b : Int) : sl1Min a b = some (min a b) := by
  unfold sl1Min; simp only [PN]
  by_cases h : a < b
  · rw [if_pos h]; congr 1; omega
  · rw [if_neg h]; congr 1; omega
theorem s_l6Long {a : Int} {k : Nat} (ha : 0 ≤ a ∧ a ≤ 80) (hk : k ≤ 80) : sl6Long a (k : Int) = some (min (a - 16 * (k : Int)) 16) := by
  unfold sl6Long
  rw [imul (by omega), isub (by omega), s_l1Min, bsome]
  congr 1; omega
theorem s_ShapeOk (f : FsD) : sShapeOk f = some (tb (ShapeOk f)) := by
  refine wp_eq ?_
  unfold sShapeOk
  simp only [PN, s_l1In, s_NodeOk]
  refine wp_if (fun hn => ?_) (fun hn => wp_no fun h => hn (by have := h.n1; omega))
  refine wp_if (fun hd => ?_) (fun hd => wp_no fun h => hd (by have := h.d1; omega))
  obtain ⟨n0, hn0⟩ := get_some (l := f.nodes) (i := 0) (by omega)
  rw [gt0 hn0, bsome]
  refine wp_if (fun hk => wp_no fun h => hk (h.root n0 hn0)) (fun hk => ?_)
  refine wp_loop (fun s => f.nodes.length - s.toNat) (fun s => ∃ i : Nat, s = (i : Int) ∧ i ≤ f.nodes.length ∧ ∀ (j : Nat) (n : NodeD), j < i → f.nodes[j]? = some n → NodeOk n)
      (fun r => (r = .inl () ∧ NodesOk f.nodes) ∨ (r = .inr false ∧ ¬ NodesOk f.nodes)) ⟨0, rfl, by omega, fun k s hk => by omega⟩ ?_ ?_
  · rintro j ⟨i, rfl, h2, h3⟩
    refine wp_if (fun hi => ?_) (fun hi => wp_out (.inl ⟨rfl, fun k s hs => h3 k s (by have := len_lt hs; omega) hs⟩))
    obtain ⟨n, hnn⟩ := get_some (l := f.nodes) (i := i) (by omega)
    rw [gt_ok hnn, bsome]
    refine wp_if (fun ho => ?_) (fun ho => wp_out (.inr ⟨rfl, fun h => ho (h i n hnn)⟩))
    refine wp_back ⟨i + 1, ir_add1 (by omega), by omega, fun j n' hj hn' => ?_⟩ (by rw [ir_add1 (by omega)]; omega)
    by_cases e : j = i
    · subst e
      rw [hnn] at hn'; cases hn'
      exact ho
    · exact h3 j n' (by omega) hn'
  rintro r (⟨rfl, hnd⟩ | ⟨rfl, hnd⟩)
  case inr => exact wp_no fun h => hnd h.nodes
  rw [Sum.elim_inl]
  refine wp_bnd _ (s_l6Used f (by omega) (by omega) (fun i n hn => (hnd.h i n hn).1)) (fun u hu => ?_)
  rw [gt_ok hu.end_, bsome]
  refine wp_if (fun hx => wp_no fun h => by have := (good_cnt.1 h.good).1; omega) (fun hx => ?_)
  refine wp_loop (fun s => f.data.length - s.toNat) (fun s => ∃ i : Nat, s = (i : Int) ∧ i ≤ f.data.length ∧ ∀ (k : Nat) s, k < i → f.data[k]? = some s → cnt (fun b => b = (k : Int)) (blks f.nodes) ≤ 1 ∧ s.length ≤ 16 ∧ (¬ (k : Int) ∈ blks f.nodes → s = []))
      (fun r => (r = .inl () ∧ DataOk f ∧ GoodB f.data.length (blks f.nodes)) ∨ (r = .inr false ∧ ¬ ShapeOk f)) ⟨0, rfl, by omega, fun k s hk => by omega⟩ ?_ ?_
  · rintro j ⟨i, rfl, h2, h3⟩
    refine wp_if (fun hi => ?_) (fun hi => wp_out (.inl ⟨rfl, fun k s hs => (h3 k s (by have := len_lt hs; omega) hs).2, good_cnt.2 ⟨by omega, fun k hk => ?_⟩⟩))
    · obtain ⟨s, hs⟩ := get_some (l := f.data) (i := i) (by omega)
      have hum := hu.at_ i (by omega)
      rw [gt_ok hum, bsome]
      have hcm := cnt_pos (fun b => b = (i : Int)) (blks f.nodes)
      refine wp_if (fun hc => wp_out (.inr ⟨rfl, fun h => by have := (good_cnt.1 h.good).2 i (by omega); omega⟩)) (fun hc => ?_)
      have hstep : s.length ≤ 16 → (¬ (i : Int) ∈ blks f.nodes → s = []) → Wp (LpO (fun s => f.data.length - s.toNat) (fun s => ∃ i : Nat, s = (i : Int) ∧ i ≤ f.data.length ∧ ∀ (k : Nat) s, k < i → f.data[k]? = some s → cnt (fun b => b = (k : Int)) (blks f.nodes) ≤ 1 ∧ s.length ≤ 16 ∧ (¬ (k : Int) ∈ blks f.nodes → s = []))
          (fun r => (r = (Sum.inl () : Unit ⊕ Bool) ∧ DataOk f ∧ GoodB f.data.length (blks f.nodes)) ∨ (r = .inr false ∧ ¬ ShapeOk f)) (i : Int)) (some (.inl (iop .add .i64 (i : Int) 1))) := fun hl he => by
        refine wp_back ⟨i + 1, ir_add1 (by omega), by omega, fun k s' hk hs' => ?_⟩ (by rw [ir_add1 (by omega)]; omega)
        by_cases e : k = i
        · subst e
          rw [hs] at hs'
          cases hs'
          exact ⟨by omega, hl, he⟩
        · exact h3 k s' (by omega) hs'
      rw [gt_ok hs, bsome, bsome]
      refine wp_if (fun h0 => ?_) (fun h0 => ?_)
      · have hnm : ¬ (i : Int) ∈ blks f.nodes := fun hm => by have := hcm.2 ⟨_, hm, rfl⟩; omega
        refine wp_if (fun hne => wp_out (.inr ⟨rfl, fun h => hne ((h.data i s hs).2 hnm)⟩)) (fun hne => ?_)
        exact wp_if (fun hl => wp_out (.inr ⟨rfl, fun h => by have := (h.data i s hs).1; omega⟩)) (fun hl => hstep (by omega) fun _ => Classical.not_not.1 hne)
      · have hm : (i : Int) ∈ blks f.nodes := by
          obtain ⟨a, ha, e⟩ := hcm.1 (by omega)
          exact e ▸ ha
        exact wp_if (fun hl => wp_out (.inr ⟨rfl, fun h => by have := (h.data i s hs).1; omega⟩)) (fun hl => hstep (by omega) fun hn => absurd hm hn)
    · obtain ⟨s, hs⟩ := get_some hk
      exact (h3 k s (by omega) hs).1
  rintro r (⟨rfl, hdo, hg⟩ | ⟨rfl, hdo⟩)
  case inr => exact wp_no hdo
  rw [Sum.elim_inl]
  refine wp_loop (fun s => f.nodes.length - s.toNat) (fun s => ∃ i : Nat, s = (i : Int) ∧ i ≤ f.nodes.length ∧ ∀ (j : Nat) (n : NodeD), j < i → f.nodes[j]? = some n → ∀ (k : Nat) (b : Int), n.blocks[k]? = some b → ∀ s, f.data[b.toNat]? = some s → (s.length : Int) = min (n.size - 16 * (k : Int)) 16)
    (fun r => (r = .inl () ∧ SizesOk f) ∨ (r = .inr false ∧ ¬ SizesOk f)) ⟨0, rfl, by omega, fun k s hk => by omega⟩ ?_ ?_
  · rintro j ⟨i, rfl, h2, h3⟩
    refine wp_if (fun hi => ?_) (fun hi => wp_out (.inl ⟨rfl, fun k s hs => h3 k s (by have := len_lt hs; omega) hs⟩))
    obtain ⟨n, hnn⟩ := get_some (l := f.nodes) (i := i) (by omega)
    rw [gt_ok hnn, bsome]
    have hno := hnd i n hnn
    have hsz := hno.size
    have hbl := hno.len
    refine wp_loop (fun s => n.blocks.length - s.toNat) (fun s => ∃ q : Nat, s = (q : Int) ∧ q ≤ n.blocks.length ∧ ∀ (k : Nat) (b : Int), k < q → n.blocks[k]? = some b → ∀ s, f.data[b.toNat]? = some s → (s.length : Int) = min (n.size - 16 * (k : Int)) 16)
      (fun r => (r = .inl () ∧ ∀ (k : Nat) (b : Int), n.blocks[k]? = some b → ∀ s, f.data[b.toNat]? = some s → (s.length : Int) = min (n.size - 16 * (k : Int)) 16) ∨ (r = .inr (.inr (.inr false)) ∧ ¬ SizesOk f)) ⟨0, rfl, by omega, fun k s hk => by omega⟩ ?_ ?_
    · rintro j ⟨q, rfl, g2, g3⟩
      refine wp_if (fun hq => ?_) (fun hq => wp_out (.inl ⟨rfl, fun k b hb => g3 k b (by have := len_lt hb; omega) hb⟩))
      obtain ⟨b, hb⟩ := get_some (l := n.blocks) (i := q) (by omega)
      have hbr := hg.1 b (blk_mem hnn hb)
      obtain ⟨s, hs⟩ := get_some (l := f.data) (i := b.toNat) (by omega)
      rw [gt_ok hb, bsome, gtI hbr.1 hs, bsome, s_l6Long hsz (by omega), bsome]
      refine wp_if (fun hne => wp_out (.inr ⟨rfl, fun h => hne (h i n hnn q b hb s hs)⟩)) (fun he => ?_)
      refine wp_back ⟨q + 1, ir_add1 (by omega), by omega, fun k b' hk hb' s' hs' => ?_⟩ (by rw [ir_add1 (by omega)]; omega)
      by_cases e : k = q
      · subst e
        rw [hb] at hb'; cases hb'
        rw [hs] at hs'; cases hs'
        exact Classical.not_not.1 he
      · exact g3 k b' (by omega) hb' s' hs'
    · rintro r (⟨rfl, ha⟩ | ⟨rfl, hx⟩)
      · refine wp_back ⟨i + 1, ir_add1 (by omega), by omega, fun j n' hj hn' => ?_⟩ (by rw [ir_add1 (by omega)]; omega)
        by_cases e : j = i
        · subst e
          rw [hnn] at hn'; cases hn'
          exact ha
        · exact h3 j n' (by omega) hn'
      · exact wp_out (.inr ⟨rfl, hx⟩)
  · rintro r (⟨rfl, hs⟩ | ⟨rfl, hs⟩)
    · exact wp_yes ⟨by omega, by omega, fun n hn' => by rw [hn0] at hn'; cases hn'; exact Classical.not_not.1 hk, hnd, hg, hdo, hs⟩
    · exact wp_no fun h => hs h.sizes
/-! ### The bits of the used blocks -/
theorem or8 (b : UInt8) (j : Nat) (hj : j < 8) (hb : b.toNat < 2 ^ j) : i2b (iop .or .u8 (b2i b) (iop .shl .u8 1 (j : Int))) = b + UInt8.ofNat (2 ^ j) := by
  have key : ∀ (j : Fin 8) (x : Fin 256), x.val < 2 ^ j.val → UInt8.ofNat (iopF .or .u8 ((UInt8.ofNat x.val).toNat : Int) (iopF .shl .u8 1 (j.val : Int))).toNat = UInt8.ofNat x.val + UInt8.ofNat (2 ^ j.val) := by decide +kernel
  rw [i2b_eq, b2i_eq, iop_eq]
  have := key ⟨j, hj⟩ ⟨b.toNat, b.toNat_lt⟩ hb
  simpa using this
theorem add8 (b : UInt8) (j : Nat) (hj : j < 8) (hb : b.toNat < 2 ^ j) : i2b (iop .add .u8 (b2i b) (wrp .u8 ((2 ^ j : Nat) : Int))) = b + UInt8.ofNat (2 ^ j) := by
  have key : ∀ (j : Fin 8) (x : Fin 256), x.val < 2 ^ j.val → UInt8.ofNat (iopF .add .u8 ((UInt8.ofNat x.val).toNat : Int) (IntKind.u8.wrap ((2 ^ j.val : Nat) : Int))).toNat = UInt8.ofNat x.val + UInt8.ofNat (2 ^ j.val) := by decide +kernel
  rw [i2b_eq, b2i_eq, iop_eq, wrp_eq]
  have := key ⟨j, hj⟩ ⟨b.toNat, b.toNat_lt⟩ hb
  simpa using this
theorem grow8 (b : UInt8) (j : Nat) (hj : j < 8) (hb : b.toNat < 2 ^ j) : (b + UInt8.ofNat (2 ^ j)).toNat < 2 ^ (j + 1) := by
  have key : ∀ (j : Fin 8) (x : Fin 256), x.val < 2 ^ j.val → (UInt8.ofNat x.val + UInt8.ofNat (2 ^ j.val)).toNat < 2 ^ (j.val + 1) := by decide +kernel
  have := key ⟨j, hj⟩ ⟨b.toNat, b.toNat_lt⟩ hb
  simpa using this
noncomputable def bitsN (p : Nat → Prop) (m : Nat) : Nat → List UInt8
  | 0 => List.replicate m 0
  | k + 1 => open Classical in if p k then (bitsN p m k).set (k / 8) ((bitsN p m k).getD (k / 8) 0 + UInt8.ofNat (2 ^ (k % 8))) else bitsN p m k
theorem bitsN_len (p : Nat → Prop) (m : Nat) : ∀ k, (bitsN p m k).length = m
  | 0 => by simp [bitsN]
  | k + 1 => by
    have := bitsN_len p m k
    unfold bitsN
    split
    · simpa using this
    · exact this
theorem bitsN_lt (p : Nat → Prop) (m : Nat) : ∀ k q b, (bitsN p m k)[q]? = some b → b.toNat < 2 ^ (min 8 (k - 8 * q))
  | 0, q, b, h => by
    unfold bitsN at h
    rw [List.getElem?_replicate] at h
    split at h
    · cases h; simp
    · cases h
  | k + 1, q, b, h => by
    have ih := bitsN_lt p m k
    have mono : ∀ b : UInt8, b.toNat < 2 ^ (min 8 (k - 8 * q)) → b.toNat < 2 ^ (min 8 (k + 1 - 8 * q)) := fun b hb =>
      Nat.lt_of_lt_of_le hb (Nat.pow_le_pow_right (by decide) (by omega))
    unfold bitsN at h
    split at h
    · rw [List.getElem?_set] at h
      split at h
      · rename_i e
        subst e
        split at h
        · rename_i hlt
          cases h
          obtain ⟨y, hy⟩ := get_some hlt
          have := ih _ y hy
          rw [show min 8 (k - 8 * (k / 8)) = k % 8 by omega] at this
          have h2 := grow8 y (k % 8) (by omega) this
          rw [List.getD_eq_getElem?_getD, hy, show min 8 (k + 1 - 8 * (k / 8)) = k % 8 + 1 by omega]
          exact h2
        · cases h
      · exact mono b (ih q b h)
    · exact mono b (ih q b h)
theorem s_l6Power (j : Nat) (hj : j < 8) : sl6Power (j : Int) = some ((2 ^ j : Nat) : Int) := by
  unfold sl6Power
  simp only [PN]
  refine bnd_up (fun i => (((2 ^ i : Nat) : Int), (i : Int))) j ((2 ^ j : Nat) : Int) rfl (fun i hi => ?_) ?_ rfl
  · have h0 := Nat.two_pow_pos i
    have : 2 ^ i ≤ 2 ^ 7 := Nat.pow_le_pow_right (by decide) (by omega)
    dsimp only
    rw [if_pos (by omega), imul (by omega), ir_add1 (by omega), Nat.pow_succ]
    congr 3
  · dsimp only
    rw [if_neg (by omega)]

/-! ### The blocks of an image -/
noncomputable def fsBlocks (f : FsD) : List (List UInt8) :=
  [[66, 65, 83, 78] ++ putNum (f.nodes.length : Int) ++ putNum (f.data.length : Int), bitsN (fun k => (k : Int) ∈ blks f.nodes) ((f.data.length + 7) / 8) f.data.length] ++ f.nodes.map nodeText ++ f.data
theorem fsBlocks_len (f : FsD) : (fsBlocks f).length = 2 + f.nodes.length + f.data.length := by simp [fsBlocks]; omega
theorem quo_8 (d : Nat) (h : d ≤ 36) : iop .quo .i64 (iop .add .i64 (d : Int) 7) 8 = (((d + 7) / 8 : Nat) : Int) := by
  rw [iadd (by omega), iquo (by omega) (by omega) (by omega)]; omega
theorem quo_k (d : Nat) (h : d ≤ 36) : iop .quo .i64 (d : Int) 8 = ((d / 8 : Nat) : Int) := by
  rw [iquo (by omega) (by omega) (by omega)]; omega
theorem rem_k (d : Nat) (h : d ≤ 36) : iop .rem .i64 (d : Int) 8 = ((d % 8 : Nat) : Int) := by
  rw [irem (by omega)]; omega
theorem map_take_snoc {α β : Type} (g : α → β) {l : List α} {i : Nat} {x : α} (h : l[i]? = some x) : (l.take (i + 1)).map g = (l.take i).map g ++ [g x] := by rw [take_snoc' h, List.map_append]; rfl
theorem bit_step {p : Nat → Prop} {m k : Nat} {y : UInt8} (hy : (bitsN p m k)[k / 8]? = some y) (hp : p k) : (bitsN p m k).set (k / 8) (y + UInt8.ofNat (2 ^ (k % 8))) = bitsN p m (k + 1) := by
  rw [show bitsN p m (k + 1) = @ite _ (p k) (Classical.propDecidable _) ((bitsN p m k).set (k / 8) ((bitsN p m k).getD (k / 8) 0 + UInt8.ofNat (2 ^ (k % 8)))) (bitsN p m k) from rfl, if_pos hp, List.getD_eq_getElem?_getD, hy]
  rfl
theorem bit_skip {p : Nat → Prop} {m k : Nat} (hp : ¬ p k) : bitsN p m k = bitsN p m (k + 1) := by
  rw [show bitsN p m (k + 1) = @ite _ (p k) (Classical.propDecidable _) ((bitsN p m k).set (k / 8) ((bitsN p m k).getD (k / 8) 0 + UInt8.ofNat (2 ^ (k % 8)))) (bitsN p m k) from rfl, if_neg hp]
theorem i_FsBlocks (f : FsD) : iFsBlocks f = some (@ite _ (ShapeOk f) (Classical.propDecidable _) (some (fsBlocks f)) none) := by
  refine wp_eq ?_
  unfold iFsBlocks
  simp only [i_ShapeOk, PN, i_PutNum]
  refine wp_if (fun hs => ?_) (fun hs => wp_some (by rw [if_neg hs]))
  rw [if_pos hs]
  have k1 := putNum_len (f.nodes.length : Int)
  have k2 := putNum_len (f.data.length : Int)
  have hd := hs.d1
  have hn := hs.n1
  refine wp_ck (room (by omega) (by omega)) (wp_ck (room (by omega) (by simp; omega)) ?_)
  refine wp_bnd _ (i_owners f (by omega) (by omega) hs.nodes.h) ?_
  rintro ⟨out, ok⟩ (⟨rfl, ho⟩ | ⟨e, hg⟩)
  case inr => exact absurd hs.good hg
  rw [quo_8 _ hd.2]
  refine wp_ck (ins (by omega)) (wp_ck (room (by omega) (by omega)) ?_)
  refine wp_loop (fun s => f.data.length - s.2.toNat) (fun s => ∃ k : Nat, s = (bitsN (fun k => (k : Int) ∈ blks f.nodes) ((f.data.length + 7) / 8) k, (k : Int)) ∧ k ≤ f.data.length)
    (fun r => r = bitsN (fun k => (k : Int) ∈ blks f.nodes) ((f.data.length + 7) / 8) f.data.length) ⟨0, by rw [rp_eq, Int.toNat_natCast]; rfl, by omega⟩ ?_ ?_
  · rintro ⟨a, j⟩ ⟨k, e, hk⟩
    injection e with e1 e2
    subst e1 e2
    dsimp only
    rw [ho.len]
    refine wp_if (fun hi => ?_) (fun hi => wp_out (by rw [show k = f.data.length by omega]))
    obtain ⟨x, hx⟩ := get_some (l := out) (i := k) (by rw [ho.len]; omega)
    have hxx := ho.at_ k x hx
    rw [gt_ok hx, bsome, quo_k k (by omega), rem_k k (by omega)]
    refine wp_if (fun hp => ?_) (fun hp => ?_)
    · obtain ⟨y, hy⟩ := get_some (l := bitsN (fun k => (k : Int) ∈ blks f.nodes) ((f.data.length + 7) / 8) k) (i := k / 8) (by rw [bitsN_len]; omega)
      have hlt := bitsN_lt _ _ _ _ _ hy
      rw [show min 8 (k - 8 * (k / 8)) = k % 8 by omega] at hlt
      rw [gt_ok hy, bsome]
      refine wp_ck (tb_pos (by omega)) ?_
      rw [or8 y (k % 8) (by omega) hlt, sl_eq, Int.toNat_natCast, bit_step hy (hxx.1 hp), ir_add1 (by omega)]
      exact wp_back ⟨k + 1, rfl, by omega⟩ (by dsimp only; omega)
    · rw [bit_skip (p := fun k => (k : Int) ∈ blks f.nodes) (fun hh => hp (hxx.2 hh)), ir_add1 (by omega)]
      exact wp_back ⟨k + 1, rfl, by omega⟩ (by dsimp only; omega)
  · rintro r rfl
    refine wp_loop (fun s => f.nodes.length - s.2.toNat) (fun s => ∃ i : Nat, s = ([[66, 65, 83, 78] ++ putNum (f.nodes.length : Int) ++ putNum (f.data.length : Int), bitsN (fun k => (k : Int) ∈ blks f.nodes) ((f.data.length + 7) / 8) f.data.length] ++ (f.nodes.take i).map nodeText, (i : Int)) ∧ i ≤ f.nodes.length)
      (fun r => r = [[66, 65, 83, 78] ++ putNum (f.nodes.length : Int) ++ putNum (f.data.length : Int), bitsN (fun k => (k : Int) ∈ blks f.nodes) ((f.data.length + 7) / 8) f.data.length] ++ f.nodes.map nodeText) ⟨0, by simp, by omega⟩ ?_ ?_
    · rintro ⟨a, j⟩ ⟨i, e, hk⟩
      injection e with e1 e2
      subst e1 e2
      dsimp only
      refine wp_if (fun hi => ?_) (fun hi => wp_out (by rw [List.take_of_length_le (by omega)]))
      obtain ⟨n, hnn⟩ := get_some (l := f.nodes) (i := i) (by omega)
      rw [gt_ok hnn, bsome, i_NodeText, bsome]
      refine wp_ck (room (by omega) (by simp; omega)) ?_
      rw [ir_add1 (by omega), List.append_assoc _ ((f.nodes.take i).map nodeText), ← map_take_snoc nodeText hnn]
      exact wp_back ⟨i + 1, rfl, by omega⟩ (by dsimp only; omega)
    · rintro r rfl
      refine wp_ck (room (by omega) (by simp; omega)) (wp_some ?_)
      rfl
theorem s_FsBlocks (f : FsD) : sFsBlocks f = some (@ite _ (ShapeOk f) (Classical.propDecidable _) (fsBlocks f) []) := by
  refine wp_eq ?_
  unfold sFsBlocks
  simp only [s_ShapeOk, PN, s_PutNum]
  refine wp_if (fun hs => ?_) (fun hs => wp_some (by rw [if_neg hs]))
  rw [if_pos hs]
  have k1 := putNum_len (f.nodes.length : Int)
  have k2 := putNum_len (f.data.length : Int)
  have hd := hs.d1
  have hn := hs.n1
  refine wp_ck (room (by omega) (by omega)) (wp_ck (room (by omega) (by simp; omega)) ?_)
  rw [quo_8 _ hd.2]
  refine wp_ck (ins (by omega)) (wp_ck (room (by omega) (by omega)) ?_)
  refine wp_bnd _ (s_l6Used f (by omega) (by omega) (fun i n hn => (hs.nodes.h i n hn).1)) (fun u hu => ?_)
  refine wp_loop (fun s => f.data.length - s.2.toNat) (fun s => ∃ k : Nat, s = (bitsN (fun k => (k : Int) ∈ blks f.nodes) ((f.data.length + 7) / 8) k, (k : Int)) ∧ k ≤ f.data.length)
    (fun r => r = bitsN (fun k => (k : Int) ∈ blks f.nodes) ((f.data.length + 7) / 8) f.data.length) ⟨0, by rw [rp_eq, Int.toNat_natCast]; rfl, by omega⟩ ?_ ?_
  · rintro ⟨a, j⟩ ⟨k, e, hk⟩
    injection e with e1 e2
    subst e1 e2
    dsimp only
    refine wp_if (fun hi => ?_) (fun hi => wp_out (by rw [show k = f.data.length by omega]))
    have hxx := cnt_pos (fun b => b = (k : Int)) (blks f.nodes)
    rw [gt_ok (hu.at_ k (by omega)), bsome, quo_k k (by omega), rem_k k (by omega)]
    refine wp_if (fun hp => ?_) (fun hp => ?_)
    · obtain ⟨y, hy⟩ := get_some (l := bitsN (fun k => (k : Int) ∈ blks f.nodes) ((f.data.length + 7) / 8) k) (i := k / 8) (by rw [bitsN_len]; omega)
      have hlt := bitsN_lt _ _ _ _ _ hy
      rw [show min 8 (k - 8 * (k / 8)) = k % 8 by omega] at hlt
      obtain ⟨c, hc, e⟩ := hxx.1 (by omega)
      rw [gt_ok hy, bsome, s_l6Power _ (by omega), bsome, add8 y (k % 8) (by omega) hlt, sl_eq, Int.toNat_natCast, bit_step (p := fun k => (k : Int) ∈ blks f.nodes) hy (by have e : c = (k : Int) := e; rw [← e]; exact hc), ir_add1 (by omega)]
      exact wp_back ⟨k + 1, rfl, by omega⟩ (by dsimp only; omega)
    · rw [bit_skip (k := k) (p := fun k => (k : Int) ∈ blks f.nodes) (fun hh => by have := hxx.2 ⟨_, hh, rfl⟩; omega), ir_add1 (by omega)]
      exact wp_back ⟨k + 1, rfl, by omega⟩ (by dsimp only; omega)
  · rintro r rfl
    refine wp_ck (room (by omega) (by omega)) ?_
    refine wp_loop (fun s => f.nodes.length - s.2.toNat) (fun s => ∃ i : Nat, s = ([[66, 65, 83, 78] ++ putNum (f.nodes.length : Int) ++ putNum (f.data.length : Int), bitsN (fun k => (k : Int) ∈ blks f.nodes) ((f.data.length + 7) / 8) f.data.length] ++ (f.nodes.take i).map nodeText, (i : Int)) ∧ i ≤ f.nodes.length)
      (fun r => r = [[66, 65, 83, 78] ++ putNum (f.nodes.length : Int) ++ putNum (f.data.length : Int), bitsN (fun k => (k : Int) ∈ blks f.nodes) ((f.data.length + 7) / 8) f.data.length] ++ f.nodes.map nodeText) ⟨0, by simp, by omega⟩ ?_ ?_
    · rintro ⟨a, j⟩ ⟨i, e, hk⟩
      injection e with e1 e2
      subst e1 e2
      dsimp only
      refine wp_if (fun hi => ?_) (fun hi => wp_out (by rw [List.take_of_length_le (by omega)]))
      obtain ⟨n, hnn⟩ := get_some (l := f.nodes) (i := i) (by omega)
      rw [gt_ok hnn, bsome, s_NodeText, bsome]
      refine wp_ck (room (by omega) (by simp; omega)) ?_
      rw [ir_add1 (by omega), List.append_assoc _ ((f.nodes.take i).map nodeText), ← map_take_snoc nodeText hnn]
      exact wp_back ⟨i + 1, rfl, by omega⟩ (by dsimp only; omega)
    · rintro r rfl
      refine wp_ck (room (by omega) (by simp; omega)) (wp_some ?_)
      rfl
noncomputable def diskFor (f : FsD) : DiskD × Bool := open Classical in if ShapeOk f then (⟨List.replicate ((fsBlocks f).length + 1) [] ++ fsBlocks f, []⟩, true) else (⟨[], []⟩, false)
noncomputable def homesOf (f : FsD) : Int := open Classical in if ShapeOk f then ((2 + f.nodes.length + f.data.length : Nat) : Int) else 0
theorem s_HomesOf (f : FsD) : sHomesOf f = some (homesOf f) := by
  unfold sHomesOf homesOf
  simp only [s_ShapeOk, PN]
  refine if_2 (fun hs => ?_) (fun hs => by rw [if_neg hs])
  have hd := hs.d1
  have hn := hs.n1
  rw [if_pos hs, iadd (a := 2) (by omega), iadd (by omega)]
  exact congrArg some (by omega)
theorem i_DiskFor (f : FsD) : iDiskFor f = some (diskFor f) := by
  unfold iDiskFor diskFor
  rw [i_FsBlocks]
  by_cases hs : ShapeOk f
  · have hd := hs.d1
    have hn := hs.n1
    have hl := fsBlocks_len f
    rw [if_pos hs, if_pos hs, bsome, oc_s, nq_no (fun e => by rw [e] at hl; simp at hl; omega)]
    simp only [PN, cond_false]
    rw [iadd (by omega), ck_in (ins (by omega)), ck_in (room (by omega) (by omega)), ck_in (room (by omega) (by rw [rp_eq]; simp; omega)), rp_eq]
    congr 4
  · rw [if_neg hs, if_neg hs, bsome, oc_n]
theorem s_DiskFor (f : FsD) : sDiskFor f = some (diskFor f) := by
  unfold sDiskFor diskFor
  rw [s_HomesOf, s_FsBlocks, homesOf]
  simp only [PN]
  by_cases hs : ShapeOk f
  · have hd := hs.d1
    have hn := hs.n1
    have hl := fsBlocks_len f
    rw [if_pos hs, if_pos hs, if_pos hs, if_neg (by omega)]
    rw [iadd (by omega), ck_in (ins (by omega)), ck_in (room (by omega) (by omega)), ck_in (room (by omega) (by rw [rp_eq]; simp; omega)), rp_eq, hl]
    congr 4
  · rw [if_neg hs, if_neg hs, if_neg hs, if_pos rfl]
end Go.Ar
