import Derived.Test.YtjfhbbjcpbfncaaArKbD
import Derived.Test.YtjfhbbjcpbfncaaArLa
namespace Go.Ar
open Go.Proofs
set_option linter.unusedVariables false
set_option linter.unusedSimpArgs false
set_option maxRecDepth 20000

/-! ### Differences of images -/
theorem i_HomesOf (f : FsD) : iHomesOf f = some (homesOf f) := by
  unfold iHomesOf homesOf
  simp only [i_ShapeOk, PN]
  refine if_2 (fun hs => ?_) (fun hs => by rw [if_neg hs])
  have hd := hs.d1
  have hn := hs.n1
  rw [if_pos hs, iadd (a := 2) (by omega), iadd (by omega)]
  exact congrArg some (by omega)
noncomputable def dfl (x y : List (List UInt8)) (n : Nat) : List PutD := (List.range n).flatMap fun k => @ite _ (x.getD k [] = y.getD k []) (Classical.propDecidable _) [] [⟨(k : Int), y.getD k []⟩]
theorem dfl_succ (x y : List (List UInt8)) (n : Nat) : dfl x y (n + 1) = dfl x y n ++ (@ite _ (x.getD n [] = y.getD n []) (Classical.propDecidable _) [] [⟨(n : Int), y.getD n []⟩]) := by
  unfold dfl; rw [List.range_succ, List.flatMap_append, List.flatMap_singleton]
theorem dfl_len (x y : List (List UInt8)) : ∀ n, (dfl x y n).length ≤ n
  | 0 => by simp [dfl]
  | n + 1 => by
    have := dfl_len x y n
    rw [dfl_succ]
    split <;> simp <;> omega
noncomputable def diff (f g : FsD) : List PutD := open Classical in if ShapeOk f ∧ ShapeOk g ∧ (fsBlocks f).length = (fsBlocks g).length then dfl (fsBlocks f) (fsBlocks g) (fsBlocks f).length else []
theorem gD_some {l : List (List UInt8)} {i : Nat} {x : List UInt8} (h : l[i]? = some x) : l.getD i [] = x := by rw [List.getD_eq_getElem?_getD, h]; rfl
theorem fsB_len {f : FsD} (h : ShapeOk f) : 5 ≤ (fsBlocks f).length ∧ (fsBlocks f).length ≤ 48 := by
  rw [fsBlocks_len]; have := h.n1; have := h.d1; omega
theorem i_Diff (f g : FsD) : iDiff f g = some (diff f g) := by
  unfold iDiff diff
  simp only [i_FsBlocks, bsome]
  by_cases hf : ShapeOk f
  · by_cases hg : ShapeOk g
    · have hfl := fsB_len hf
      have hgl := fsB_len hg
      rw [if_pos hf, oc_s, if_pos hg, oc_s, nq_no (fun e => by rw [e] at hfl; simp at hfl), cond_false, nq_no (fun e => by rw [e] at hgl; simp at hgl), cond_false]
      simp only [PN]
      refine if_2 (fun hn => by rw [if_neg fun hh => hn (by rw [hh.2.2])]) (fun hn => ?_)
      have he : (fsBlocks f).length = (fsBlocks g).length := by omega
      rw [if_pos ⟨hf, hg, he⟩]
      generalize fsBlocks f = x at *
      generalize fsBlocks g = y at *
      refine bnd_up (fun k => (dfl x y k, (k : Int))) x.length (dfl x y x.length) rfl (fun i hi => ?_) ?_ rfl
      · obtain ⟨a, ha⟩ := get_some hi
        obtain ⟨b, hb⟩ := get_some (l := y) (i := i) (by omega)
        have := dfl_len x y i
        dsimp only
        rw [if_pos (by omega), gt_ok hb, bsome, gt_ok ha, bsome, dfl_succ, gD_some ha, gD_some hb]
        by_cases hab : a = b
        · rw [if_neg (fun h => h hab.symm), if_pos hab, ir_add1 (by omega), List.append_nil]
        · rw [if_pos (fun h => hab h.symm), if_neg hab, ck_in (room (by omega) (by omega)), ir_add1 (by omega)]
      · dsimp only
        rw [if_neg (by omega)]
    · have hfl := fsB_len hf
      rw [if_pos hf, oc_s, if_neg hg, oc_n, nq_no (fun e => by rw [e] at hfl; simp at hfl), cond_false, if_neg fun hh => hg hh.2.1]
  · rw [if_neg hf, oc_n, if_neg (c := ShapeOk f ∧ _ ∧ _) fun hh => hf hh.1]
    by_cases hg : ShapeOk g
    · rw [if_pos hg, oc_s]
    · rw [if_neg hg, oc_n]
theorem s_Diff (f g : FsD) : sDiff f g = some (diff f g) := by
  unfold sDiff diff
  simp only [s_FsBlocks, PN]
  have key : ∀ x y : List (List UInt8), x.length = y.length → x.length ≤ 48 → bnd (lp (σ := (List PutD) × Int) (ρ := (List PutD)) (fun s22 =>
      @ite _ (s22.2 < (x.length : Int)) (Classical.propDecidable _) (bnd (gt x s22.2) fun y23 => bnd (gt y s22.2) fun y24 => @ite _ (¬ y23 = y24) (Classical.propDecidable _)
        (ck (Room ((s22.1.length : Int) + 1) 24) <| some (.inl (s22.1 ++ [(⟨s22.2, y24⟩ : PutD)], iop .add .i64 s22.2 1))) (some (.inl (s22.1, iop .add .i64 s22.2 1)))) (some (.inr (s22.1)))) ([], 0)) (fun a17 => some a17) = some (dfl x y x.length) := by
    intro x y he hl
    refine bnd_up (fun k => (dfl x y k, (k : Int))) x.length (dfl x y x.length) rfl (fun i hi => ?_) ?_ rfl
    · obtain ⟨a, ha⟩ := get_some hi
      obtain ⟨b, hb⟩ := get_some (l := y) (i := i) (by omega)
      have := dfl_len x y i
      dsimp only
      rw [if_pos (by omega), gt_ok ha, bsome, gt_ok hb, bsome, dfl_succ, gD_some ha, gD_some hb]
      by_cases hab : a = b
      · rw [if_neg (fun h => h hab), if_pos hab, ir_add1 (by omega), List.append_nil]
      · rw [if_pos hab, if_neg hab, ck_in (room (by omega) (by omega)), ir_add1 (by omega)]
    · dsimp only
      rw [if_neg (by omega)]
  by_cases hf : ShapeOk f
  · have hfl := fsB_len hf
    by_cases hg : ShapeOk g
    · rw [if_pos hf, if_pos hg]
      refine if_2 (fun hn => by rw [if_neg fun hh => hn (by rw [hh.2.2])]) (fun hn => ?_)
      have he : (fsBlocks f).length = (fsBlocks g).length := by omega
      rw [if_pos ⟨hf, hg, he⟩]
      exact key _ _ he (by omega)
    · rw [if_pos hf, if_neg hg, if_pos (by simp only [List.length_nil]; omega), if_neg fun hh => hg hh.2.1]
  · rw [if_neg hf, if_neg (c := ShapeOk f ∧ _ ∧ _) fun hh => hf hh.1]
    by_cases hg : ShapeOk g
    · have hgl := fsB_len hg
      rw [if_pos hg, if_pos (by simp only [List.length_nil]; omega)]
    · rw [if_neg hg, if_neg (by simp)]
      exact key [] [] rfl (by simp)
theorem diff_len (f g : FsD) : (diff f g).length ≤ 48 := by
  unfold diff
  split
  · rename_i h
    have := dfl_len (fsBlocks f) (fsBlocks g) (fsBlocks f).length
    have := fsB_len h.1
    omega
  · simp

/-! ### Transactions -/
structure TxOk (n : Int) (l : List PutD) : Prop where
  n1 : 1 ≤ n ∧ n ≤ 48
  ne : ¬ (l.length : Int) = 0
  rng : ∀ (i : Nat) (w : PutD), l[i]? = some w → (0 ≤ w.pos ∧ w.pos ≤ n - 1) ∧ w.data.length ≤ 90
  inc : ∀ (i : Nat) (w v : PutD), l[i]? = some w → l[i + 1]? = some v → w.pos < v.pos
theorem i_short (s : List UInt8) : ishort s = some (tb ((s.length : Int) ≤ 90)) := by unfold ishort; simp only [PN]
theorem i_TxOk (n : Int) (l : List PutD) (hl : l.length ≤ 1000000) : iTxOk n l = some (tb (TxOk n l)) := by
  refine wp_eq ?_
  unfold iTxOk
  simp only [i_within, i_short, PN]
  refine wp_if (fun hn => ?_) (fun hn => wp_no fun h => hn h.n1)
  refine wp_if (fun he => wp_no fun h => h.ne he) (fun he => ?_)
  refine wp_loop (fun s => l.length - s.2.toNat) (fun s => ∃ i : Nat, s.2 = (i : Int) ∧ i ≤ l.length ∧ ((i = 0 ∧ s.1 = -1) ∨ (1 ≤ i ∧ ∃ w, l[i - 1]? = some w ∧ s.1 = w.pos ∧ 0 ≤ w.pos ∧ w.pos ≤ n - 1)) ∧
      (∀ (j : Nat) (w : PutD), j < i → l[j]? = some w → (0 ≤ w.pos ∧ w.pos ≤ n - 1) ∧ w.data.length ≤ 90) ∧ (∀ (j : Nat) (w v : PutD), j + 1 < i → l[j]? = some w → l[j + 1]? = some v → w.pos < v.pos))
    (fun r => (r = .inl () ∧ TxOk n l) ∨ (r = .inr false ∧ ¬ TxOk n l)) ⟨0, rfl, by omega, .inl ⟨rfl, rfl⟩, fun j w hj => by omega, fun j w v hj => by omega⟩ ?_ ?_
  · rintro ⟨a, j⟩ ⟨i, h1, h2, h3, h4, h5⟩
    dsimp only at h1 h3 ⊢
    subst h1
    refine wp_if (fun hi => ?_) (fun hi => wp_out (.inl ⟨rfl, hn, he, fun j w hw => h4 j w (by have := len_lt hw; omega) hw, fun j w v hw hv => h5 j w v (by have := len_lt hv; omega) hw hv⟩))
    obtain ⟨w, hw⟩ := get_some (l := l) (i := i) (by omega)
    have ha : -1 ≤ a ∧ a ≤ n - 1 := by rcases h3 with ⟨_, e⟩ | ⟨_, w', _, e, e1, e2⟩ <;> omega
    rw [gt_ok hw, bsome, iadd (by omega), isub (by omega)]
    refine wp_if (fun hr => ?_) (fun hr => wp_out (.inr ⟨rfl, fun h => hr ?_⟩))
    · refine wp_if (fun hs => ?_) (fun hs => wp_out (.inr ⟨rfl, fun h => hs (by have := (h.rng i w hw).2; omega)⟩))
      refine wp_back ⟨i + 1, ir_add1 (by omega), by omega, .inr ⟨by omega, w, by rw [Nat.add_sub_cancel]; exact hw, rfl, by omega, by omega⟩, fun j v hj hv => ?_, fun j u v hj hu hv => ?_⟩ (by dsimp only; rw [ir_add1 (by omega)]; omega)
      · by_cases e : j = i
        · subst e
          rw [hw] at hv; cases hv
          exact ⟨by omega, by omega⟩
        · exact h4 j v (by omega) hv
      · by_cases e : j + 1 = i
        · rw [e, hw] at hv; cases hv
          rcases h3 with ⟨e0, _⟩ | ⟨_, w', hw', e1, _, _⟩
          · omega
          · rw [show i - 1 = j by omega, hu] at hw'; cases hw'
            omega
        · exact h5 j u v (by omega) hu hv
    · have := h.rng i w hw
      rcases h3 with ⟨e0, e1⟩ | ⟨_, w', hw', e1, _, _⟩
      · omega
      · have := h.inc (i - 1) w' w hw' (by rw [show i - 1 + 1 = i by omega]; exact hw)
        omega
  · rintro r (⟨rfl, h⟩ | ⟨rfl, h⟩)
    · exact wp_yes h
    · exact wp_no h
theorem s_l3PutsOk (n : Int) (hn : 1 ≤ n ∧ n ≤ 1000) (l : List PutD) (hl : l.length ≤ 1000000) : sl3PutsOk l n = some (tb (∀ (i : Nat) (w : PutD), l[i]? = some w → (0 ≤ w.pos ∧ w.pos ≤ n - 1) ∧ w.data.length ≤ 90)) := by
  unfold sl3PutsOk
  simp only [s_l1In, PN]
  refine bnd_first (fun i : Nat => (i : Int)) l (fun i w => (0 ≤ w.pos ∧ w.pos ≤ n - 1) ∧ w.data.length ≤ 90) (fun _ _ => .inr false) (.inl ()) rfl (fun i y hy _ h => ?_) (fun i y hy _ h => ?_) (fun h => ?_) (fun h => ?_) (fun k y hy hn hj => ?_)
  · have := len_lt hy
    rw [if_pos (by omega), gt_ok hy, bsome, isub (by omega), if_pos h.1, if_neg (by omega), ir_add1 (by omega)]
  · have := len_lt hy
    rw [if_pos (by omega), gt_ok hy, bsome, isub (by omega)]
    by_cases h1 : 0 ≤ y.pos ∧ y.pos ≤ n - 1
    · rw [if_pos h1, if_pos (by omega)]
    · rw [if_neg h1]
  · rw [if_neg (by omega)]
  · exact some_tb (iff_of_true rfl h)
  · exact some_tb (iff_of_false (by simp) fun h => hn (h k y hy))
theorem s_TxOk (n : Int) (l : List PutD) (hl : l.length ≤ 1000000) : sTxOk n l = some (tb (TxOk n l)) := by
  refine wp_eq ?_
  unfold sTxOk
  simp only [s_l1In, PN]
  refine wp_if (fun hn => ?_) (fun hn => wp_no fun h => hn h.n1)
  refine wp_if (fun he => wp_no fun h => h.ne he) (fun he => ?_)
  rw [s_l3PutsOk n (by omega) l hl, bsome, cond_tb]
  refine wp_if (fun hr => ?_) (fun hr => wp_no fun h => hr h.rng)
  refine wp_loop (fun s => l.length - s.toNat) (fun s => ∃ i : Nat, s = ((i + 1 : Nat) : Int) ∧ i + 1 ≤ l.length ∧ ∀ (j : Nat) (w v : PutD), j < i → l[j]? = some w → l[j + 1]? = some v → w.pos < v.pos)
    (fun r => (r = .inl () ∧ TxOk n l) ∨ (r = .inr false ∧ ¬ TxOk n l)) ⟨0, rfl, by omega, fun j w v hj => by omega⟩ ?_ ?_
  · rintro j ⟨i, rfl, h2, h3⟩
    refine wp_if (fun hi => ?_) (fun hi => wp_out (.inl ⟨rfl, hn, he, hr, fun j w v hw hv => h3 j w v (by have := len_lt hv; omega) hw hv⟩))
    obtain ⟨w, hw⟩ := get_some (l := l) (i := i + 1) (by omega)
    obtain ⟨v, hv⟩ := get_some (l := l) (i := i) (by omega)
    rw [gt_ok hw, bsome, isub (by omega), show ((i + 1 : Nat) : Int) - 1 = (i : Int) by omega, gt_ok hv, bsome]
    refine wp_if (fun hle => wp_out (.inr ⟨rfl, fun h => by have := h.inc i v w hv hw; omega⟩)) (fun hlt => ?_)
    refine wp_back ⟨i + 1, ir_add1 (by omega), by omega, fun j a b hj ha hb => ?_⟩ (by rw [ir_add1 (by omega)]; omega)
    by_cases e : j = i
    · subst e
      rw [hv] at ha; cases ha
      rw [hw] at hb; cases hb
      omega
    · exact h3 j a b (by omega) ha hb
  · rintro r (⟨rfl, h⟩ | ⟨rfl, h⟩)
    · exact wp_yes h
    · exact wp_no h
/-! ### Checksums -/
noncomputable def putText (s : List UInt8) : List UInt8 := putNum (s.length : Int) ++ s
theorem putText_len (s : List UInt8) : (putText s).length ≤ 5 + s.length := by
  have := putNum_len (s.length : Int)
  unfold putText; rw [List.length_append]; omega
theorem i_PutText (s : List UInt8) (h : s.length ≤ 2000000) : iPutText s = some (putText s) := by
  have := putNum_len (s.length : Int)
  unfold iPutText
  simp only [i_PutNum, PN]
  rw [ck_in (room (by omega) (by omega))]; rfl
theorem s_PutText (s : List UInt8) (h : s.length ≤ 2000000) : sPutText s = some (putText s) := by
  have := putNum_len (s.length : Int)
  unfold sPutText
  simp only [s_PutNum, PN]
  rw [ck_in (room (by omega) (by omega)), ck_in (room (by omega) (by omega))]; rfl
def crcS (x : Nat) : Nat := if x % 2 = 1 then (x / 2) ^^^ 3988292384 else x / 2
def crcN : Nat → Nat → Nat
  | 0, x => x
  | n + 1, x => crcS (crcN n x)
def crcB (x : Nat) (b : UInt8) : Nat := crcN 8 (x ^^^ b.toNat)
def crc (l : List UInt8) : Nat := (l.foldl crcB 4294967295) ^^^ 4294967295
theorem xor_lt {a b : Nat} (ha : a < 4294967296) (hb : b < 4294967296) : a ^^^ b < 4294967296 := Nat.xor_lt_two_pow (n := 32) ha hb
theorem crcS_lt {x : Nat} (h : x < 4294967296) : crcS x < 4294967296 := by
  unfold crcS; split
  · exact xor_lt (by omega) (by decide)
  · omega
theorem crcN_lt {x : Nat} (h : x < 4294967296) : ∀ n, crcN n x < 4294967296
  | 0 => h
  | n + 1 => crcS_lt (crcN_lt h n)
theorem crcB_lt {x : Nat} {b : UInt8} (h : x < 4294967296) : crcB x b < 4294967296 := crcN_lt (xor_lt h (by have := b.toNat_lt; omega)) 8
theorem crcF_lt : ∀ (l : List UInt8) (x : Nat), x < 4294967296 → l.foldl crcB x < 4294967296
  | [], x, h => h
  | b :: l, x, h => crcF_lt l _ (crcB_lt h)
theorem n_xor {a b : Nat} (ha : a < 4294967296) (hb : b < 4294967296) : iop .xor .i64 (a : Int) (b : Int) = ((a ^^^ b : Nat) : Int) := by
  rw [iop_eq]
  show IntKind.i64.wrap ((BitVec.ofInt 64 (a : Int) ^^^ BitVec.ofInt 64 (b : Int)).toNat : Int) = _
  have e : (BitVec.ofInt 64 (a : Int) ^^^ BitVec.ofInt 64 (b : Int)).toNat = a ^^^ b := by
    rw [BitVec.toNat_xor]
    have e1 : (BitVec.ofInt 64 (a : Int)).toNat = a := by simp [BitVec.toNat_ofInt]; omega
    have e2 : (BitVec.ofInt 64 (b : Int)).toNat = b := by simp [BitVec.toNat_ofInt]; omega
    rw [e1, e2]
  have := xor_lt ha hb
  rw [e, w64 (by omega)]
theorem n_and1 {m : Nat} (h : m < 4294967296) : iop .and .i64 (m : Int) 1 = ((m % 2 : Nat) : Int) := by
  rw [iop_eq]
  show IntKind.i64.wrap ((BitVec.ofInt 64 (m : Int) &&& BitVec.ofInt 64 1).toNat : Int) = _
  have e : (BitVec.ofInt 64 (m : Int) &&& BitVec.ofInt 64 1).toNat = m % 2 := by
    rw [BitVec.toNat_and]
    have e1 : (BitVec.ofInt 64 (m : Int)).toNat = m := by simp [BitVec.toNat_ofInt]; omega
    have e2 : (BitVec.ofInt 64 1).toNat = 2 ^ 1 - 1 := by decide
    rw [e1, e2, Nat.and_two_pow_sub_one_eq_mod]
  rw [e, w64 (by omega)]
theorem n_shr1 {m : Nat} : iop .shr .i64 (m : Int) 1 = ((m / 2 : Nat) : Int) := by
  rw [show (1 : Int) = ((1 : Nat) : Int) from rfl, ishr 1 (by omega) (by omega)]; omega
theorem n_byte (y : UInt8) : wrp .i64 (b2i y) = ((y.toNat : Nat) : Int) := by rw [wrp_eq, b2i_eq, w64 (by have := y.toNat_lt; omega)]
theorem take_foldl {α β : Type} (g : β → α → β) {l : List α} {i : Nat} {x : α} (h : l[i]? = some x) (b : β) : (l.take (i + 1)).foldl g b = g ((l.take i).foldl g b) x := by rw [take_snoc' h, List.foldl_append]; rfl
theorem i_Crc (l : List UInt8) (hl : l.length ≤ 4000000) : iCrc l = some ((crc l : Nat) : Int) := by
  unfold iCrc
  simp only [PN]
  refine bnd_up (fun i => (((l.take i).foldl crcB 4294967295 : Nat), (i : Int))) l.length ((l.foldl crcB 4294967295 : Nat) : Int) (by simp) (fun i hi => ?_) ?_ ?_
  · obtain ⟨y, hy⟩ := get_some hi
    have h1 := crcF_lt (l.take i) 4294967295 (by omega)
    have hy2 := y.toNat_lt
    dsimp only
    rw [if_pos (by omega), gt_ok hy, bsome, n_byte, n_xor h1 (by omega), take_foldl crcB hy]
    generalize (l.take i).foldl crcB 4294967295 = x at *
    have hx := xor_lt h1 (show y.toNat < 4294967296 by omega)
    refine bnd_up (fun q => ((crcN q (x ^^^ y.toNat) : Nat), (q : Int))) 8 ((crcN 8 (x ^^^ y.toNat) : Nat) : Int) rfl (fun q hq => ?_) ?_ (by rw [ir_add1 (by omega)]; rfl)
    · have h2 := crcN_lt hx q
      dsimp only
      rw [if_pos (by omega), n_and1 h2, n_shr1, show (3988292384 : Int) = ((3988292384 : Nat) : Int) from rfl, n_xor (by omega) (by decide), ir_add1 (by omega)]
      rw [show crcN (q + 1) (x ^^^ y.toNat) = crcS (crcN q (x ^^^ y.toNat)) from rfl]
      generalize crcN q (x ^^^ y.toNat) = z at *
      unfold crcS
      by_cases hz : z % 2 = 1
      · rw [if_pos (by omega), if_pos hz]
      · rw [if_neg (by omega), if_neg hz]
    · dsimp only
      rw [if_neg (by omega)]
  · dsimp only
    rw [if_neg (by omega), List.take_length]
  · rw [show (4294967295 : Int) = ((4294967295 : Nat) : Int) from rfl, n_xor (crcF_lt _ _ (by omega)) (by decide)]; rfl
theorem s_Crc (l : List UInt8) (hl : l.length ≤ 4000000) : sCrc l = some ((crc l : Nat) : Int) := by
  unfold sCrc
  simp only [PN]
  refine bnd_up (fun i => (((l.take i).foldl crcB 4294967295 : Nat), (i : Int))) l.length ((l.foldl crcB 4294967295 : Nat) : Int) (by simp) (fun i hi => ?_) ?_ ?_
  · obtain ⟨y, hy⟩ := get_some hi
    have h1 := crcF_lt (l.take i) 4294967295 (by omega)
    have hy2 := y.toNat_lt
    dsimp only
    rw [if_pos (by omega), gt_ok hy, bsome, n_byte, n_xor h1 (by omega), take_foldl crcB hy]
    generalize (l.take i).foldl crcB 4294967295 = x at *
    have hx := xor_lt h1 (show y.toNat < 4294967296 by omega)
    refine bnd_up (fun q => ((crcN q (x ^^^ y.toNat) : Nat), (q : Int))) 8 ((crcN 8 (x ^^^ y.toNat) : Nat) : Int) rfl (fun q hq => ?_) ?_ (by rw [ir_add1 (by omega)]; rfl)
    · have h2 := crcN_lt hx q
      dsimp only
      rw [if_pos (by omega), irem (by omega), iquo (by omega) (by omega) (by omega), show ((crcN q (x ^^^ y.toNat) : Nat) : Int) / 2 = ((crcN q (x ^^^ y.toNat) / 2 : Nat) : Int) by omega,
        show (3988292384 : Int) = ((3988292384 : Nat) : Int) from rfl, n_xor (by omega) (by decide), ir_add1 (by omega)]
      rw [show crcN (q + 1) (x ^^^ y.toNat) = crcS (crcN q (x ^^^ y.toNat)) from rfl]
      generalize crcN q (x ^^^ y.toNat) = z at *
      unfold crcS
      by_cases hz : z % 2 = 1
      · rw [if_pos (by omega), if_pos hz]
      · rw [if_neg (by omega), if_neg hz]
    · dsimp only
      rw [if_neg (by omega)]
  · dsimp only
    rw [if_neg (by omega), List.take_length]
  · rw [show (4294967295 : Int) = ((4294967295 : Nat) : Int) from rfl, n_xor (crcF_lt _ _ (by omega)) (by decide)]; rfl
theorem crc_lt (l : List UInt8) : crc l < 4294967296 := xor_lt (crcF_lt _ _ (by decide)) (by decide)

/-! ### Heads -/
noncomputable def dataSum (l : List (List UInt8)) : Nat := crc (l.flatMap putText)
/-- Not too many texts, none too long. -/
def Small (l : List (List UInt8)) : Prop := l.length ≤ 200 ∧ ∀ s ∈ l, s.length ≤ 1000
theorem Small.flat {l : List (List UInt8)} (h : Small l) (i : Nat) : ((l.take i).flatMap putText).length ≤ 201000 := by
  have h1 := flatMap_len putText 1005 (l.take i) fun x hx => by
    have := putText_len x
    have := h.2 x (List.mem_of_mem_take hx)
    omega
  have : (l.take i).length ≤ l.length := by simp; omega
  have := h.1
  omega
theorem i_dataSum {l : List (List UInt8)} (h : Small l) : idataSum l = some ((dataSum l : Nat) : Int) := by
  unfold idataSum
  simp only [PN]
  have hl := h.1
  have hf := h.flat l.length
  rw [List.take_length] at hf
  refine bnd_flat (fun i b => (b, (i : Int))) putText l [] (l.flatMap putText) rfl (fun i x hx => ?_) ?_ ?_
  · have h1 := len_lt hx
    have h2 := h.flat i
    have h3 := putText_len x
    have h4 := h.2 x (List.mem_of_getElem? hx)
    dsimp only
    rw [if_pos (by omega), gt_ok hx, bsome, i_PutText x (by omega), bsome, ck_in (room (by omega) (by simp only [List.nil_append]; omega)), ir_add1 (by omega)]
  · dsimp only
    rw [if_neg (by omega), List.nil_append]
  · rw [i_Crc _ (by omega)]; rfl
theorem s_l4Sum {l : List (List UInt8)} (h : Small l) : sl4Sum l = some ((dataSum l : Nat) : Int) := by
  unfold sl4Sum
  simp only [PN]
  have hl := h.1
  have hf := h.flat l.length
  rw [List.take_length] at hf
  refine bnd_flat (fun i b => (b, (i : Int))) putText l [] (l.flatMap putText) rfl (fun i x hx => ?_) ?_ ?_
  · have h1 := len_lt hx
    have h2 := h.flat i
    have h3 := putText_len x
    have h4 := h.2 x (List.mem_of_getElem? hx)
    dsimp only
    rw [if_pos (by omega), gt_ok hx, bsome, s_PutText x (by omega), bsome, ck_in (room (by omega) (by simp only [List.nil_append]; omega)), ir_add1 (by omega)]
  · dsimp only
    rw [if_neg (by omega), List.nil_append]
  · rw [s_Crc _ (by omega)]; rfl
theorem n_w8 (m : Nat) : i2b (wrp .u8 (m : Int)) = UInt8.ofNat m := by
  rw [wrp_eq, i2b_eq]
  have e : (IntKind.u8.wrap (m : Int)).toNat = m % 256 := by
    simp only [IntKind.wrap, IntKind.bits, IntKind.signed]
    simp; omega
  rw [e]
  apply UInt8.toNat_inj.1
  simp
theorem n_w8m (m : Nat) : i2b (wrp .u8 ((m % 256 : Nat) : Int)) = UInt8.ofNat m := by
  rw [n_w8]
  apply UInt8.toNat_inj.1
  simp
def four (m : Nat) : List UInt8 := [UInt8.ofNat (m / 16777216), UInt8.ofNat (m / 65536), UInt8.ofNat (m / 256), UInt8.ofNat m]
noncomputable def headBytes (ats : List Int) (m : Nat) : List UInt8 := [74] ++ putNum (ats.length : Int) ++ ats.flatMap putNum ++ four m
theorem headBytes_len (ats : List Int) (m : Nat) : (headBytes ats m).length ≤ 10 + 5 * ats.length := by
  have := putNum_len (ats.length : Int)
  have := flatMap_len putNum 5 ats fun x _ => putNum_len x
  simp only [headBytes, four, List.length_append, List.length_cons, List.length_nil]; omega
theorem n_shrK (m k : Nat) (hk : k ≤ 64) : iop .shr .i64 (m : Int) (k : Int) = ((m / 2 ^ k : Nat) : Int) := by
  rw [ishr k hk (by omega)]
  simp
theorem i_headBytes (ats : List Int) (m : Nat) (hl : ats.length ≤ 1000) : iheadBytes ats (m : Int) = some (headBytes ats m) := by
  have h1 := putNum_len (ats.length : Int)
  have h2 := flatMap_len putNum 5 ats fun x _ => putNum_len x
  unfold iheadBytes
  simp only [i_PutNum, PN]
  rw [ck_in (room (by omega) (by omega))]
  refine bnd_flat (fun i b => (b, (i : Int))) putNum ats ([74] ++ putNum (ats.length : Int)) ([74] ++ putNum (ats.length : Int) ++ ats.flatMap putNum) rfl (fun i x hx => ?_) ?_ ?_
  · have h1 := len_lt hx
    have h2 := flat_take_le putNum 5 putNum_len ats i
    have h3 := putNum_len x
    have h4 := putNum_len (ats.length : Int)
    dsimp only
    rw [if_pos (by omega), gt_ok hx, bsome, ck_in (room (by omega) (by simp only [List.length_append, List.length_cons, List.length_nil]; omega)), ir_add1 (by omega)]
  · dsimp only
    rw [if_neg (by omega)]
  · rw [ck_in (room (by omega) (by simp only [List.length_append, List.length_cons, List.length_nil]; omega)), show (24 : Int) = ((24 : Nat) : Int) from rfl, show (16 : Int) = ((16 : Nat) : Int) from rfl, show (8 : Int) = ((8 : Nat) : Int) from rfl,
      n_shrK m 24 (by omega), n_shrK m 16 (by omega), n_shrK m 8 (by omega), n_w8, n_w8, n_w8, n_w8]
    rfl
theorem s_l4Four (m : Nat) (hm : m < 4294967296) : sl4Four (m : Int) = some (four m) := by
  unfold sl4Four
  rw [iquo (a := (m : Int)) (b := 16777216) (by omega) (by omega) (by omega), iquo (a := (m : Int)) (b := 65536) (by omega) (by omega) (by omega), iquo (a := (m : Int)) (b := 256) (by omega) (by omega) (by omega), irem (a := (m : Int) / 65536) (by omega), irem (a := (m : Int) / 256) (by omega), irem (a := (m : Int)) (by omega),
    show (m : Int) / 16777216 = ((m / 16777216 : Nat) : Int) by omega, show (m : Int) / 65536 % 256 = ((m / 65536 % 256 : Nat) : Int) by omega, show (m : Int) / 256 % 256 = ((m / 256 % 256 : Nat) : Int) by omega, show (m : Int) % 256 = ((m % 256 : Nat) : Int) by omega,
    n_w8, n_w8m, n_w8m, n_w8m]
  rfl
theorem s_l4Head (ats : List Int) (m : Nat) (hm : m < 4294967296) (hl : ats.length ≤ 1000) : sl4Head ats (m : Int) = some (headBytes ats m) := by
  have h1 := putNum_len (ats.length : Int)
  have h2 := flatMap_len putNum 5 ats fun x _ => putNum_len x
  unfold sl4Head
  simp only [s_PutNum, PN]
  rw [ck_in (room (by omega) (by omega))]
  refine bnd_flat (fun i b => (b, (i : Int))) putNum ats ([74] ++ putNum (ats.length : Int)) ([74] ++ putNum (ats.length : Int) ++ ats.flatMap putNum) rfl (fun i x hx => ?_) ?_ ?_
  · have h1 := len_lt hx
    have h2 := flat_take_le putNum 5 putNum_len ats i
    have h3 := putNum_len x
    have h4 := putNum_len (ats.length : Int)
    dsimp only
    rw [if_pos (by omega), gt_ok hx, bsome, ck_in (room (by omega) (by simp only [List.length_append, List.length_cons, List.length_nil]; omega)), ir_add1 (by omega)]
  · dsimp only
    rw [if_neg (by omega)]
  · rw [s_l4Four m hm, bsome, ck_in (room (by omega) (by simp only [four, List.length_append, List.length_cons, List.length_nil]; omega))]
    rfl
noncomputable def headText (l : List PutD) : List UInt8 := open Classical in if TxOk 48 l then headBytes (l.map (·.pos)) (dataSum (l.map (·.data))) else []
theorem TxOk.small {n : Int} {l : List PutD} (h : TxOk n l) (hl : l.length ≤ 200) : Small (l.map (·.data)) := ⟨by simpa using hl, fun s hs => by
  obtain ⟨w, hw, rfl⟩ := List.mem_map.1 hs
  obtain ⟨i, hi⟩ := List.mem_iff_getElem?.1 hw
  have := (h.rng i w hi).2
  omega⟩
theorem headText_len (l : List PutD) (hl : l.length ≤ 200) : (headText l).length ≤ 1010 := by
  unfold headText
  split
  · have := headBytes_len (l.map (·.pos)) (dataSum (l.map (·.data)))
    rw [List.length_map] at this
    omega
  · simp
theorem i_HeadText (l : List PutD) (hl : l.length ≤ 200) : iHeadText l = some (headText l) := by
  unfold iHeadText headText
  simp only [i_TxOk 48 l (by omega), PN]
  refine if_2 (fun h => ?_) (fun h => by rw [if_neg h])
  rw [if_pos h]
  refine bnd_up (fun i => ((l.take i).map (·.pos), (l.take i).map (·.data), (i : Int))) l.length (l.map (·.pos), l.map (·.data)) (by simp) (fun i hi => ?_) ?_ ?_
  · obtain ⟨w, hw⟩ := get_some hi
    dsimp only
    rw [if_pos (by omega), gt_ok hw, bsome, ck_in (room (by omega) (by simp; omega)), ck_in (room (by omega) (by simp; omega)), ir_add1 (by omega), map_take_snoc (·.pos) hw, map_take_snoc (·.data) hw]
  · dsimp only
    rw [if_neg (by omega), List.take_length]
  · dsimp only
    rw [i_dataSum (h.small hl), bsome, i_headBytes _ _ (by simp; omega), bsome]
theorem s_HeadText (l : List PutD) (hl : l.length ≤ 200) : sHeadText l = some (headText l) := by
  unfold sHeadText headText
  simp only [s_TxOk 48 l (by omega), PN]
  refine if_2 (fun h => ?_) (fun h => by rw [if_neg h])
  rw [if_pos h]
  refine bnd_up (fun i => ((l.take i).map (·.pos), (l.take i).map (·.data), (i : Int))) l.length (l.map (·.pos), l.map (·.data)) (by simp) (fun i hi => ?_) ?_ ?_
  · obtain ⟨w, hw⟩ := get_some hi
    dsimp only
    rw [if_pos (by omega), gt_ok hw, bsome, ck_in (room (by omega) (by simp; omega)), ck_in (room (by omega) (by simp; omega)), ir_add1 (by omega), map_take_snoc (·.pos) hw, map_take_snoc (·.data) hw]
  · dsimp only
    rw [if_neg (by omega), List.take_length]
  · dsimp only
    rw [s_l4Sum (h.small hl), bsome, s_l4Head _ (dataSum _) (crc_lt _) (by simp; omega), bsome]

/-! ### Commits -/
def evw (k : Int) (s : List UInt8) : EventD := ⟨0, k, s⟩
def evf : EventD := ⟨1, 0, []⟩
def pre1 : Nat → List PutD → List EventD
  | _, [] => []
  | k, w :: l => evw (1 + (k : Int)) w.data :: pre1 (k + 1) l
theorem pre1_snoc (w : PutD) : ∀ (l : List PutD) (k : Nat), pre1 k (l ++ [w]) = pre1 k l ++ [evw (1 + ((k + l.length : Nat) : Int)) w.data]
  | [], k => rfl
  | v :: l, k => by
    simp only [List.cons_append, pre1, pre1_snoc w l (k + 1), List.length_cons]
    congr 4; omega
theorem pre1_len : ∀ (l : List PutD) (k : Nat), (pre1 k l).length = l.length
  | [], _ => rfl
  | v :: l, k => by simp [pre1, pre1_len l]
noncomputable def commit (n : Int) (l : List PutD) : List EventD := open Classical in
  if TxOk n l then pre1 0 l ++ [evf, evw 0 (headText l), evf] ++ l.map (fun w => evw (n + 1 + w.pos) w.data) ++ [evf, evw 0 [], evf] else []
theorem i_Commit (n : Int) (l : List PutD) (hl : l.length ≤ 200) : iCommit n l = some (commit n l) := by
  unfold iCommit commit
  simp only [i_TxOk n l (by omega), PN]
  refine if_2 (fun h => ?_) (fun h => by rw [if_neg h])
  rw [if_pos h]
  have hn := h.n1
  refine bnd_up (fun i => (pre1 0 (l.take i), (i : Int))) l.length (pre1 0 l) rfl (fun i hi => ?_) ?_ ?_
  · obtain ⟨w, hw⟩ := get_some hi
    have e := pre1_len (l.take i) 0
    rw [List.length_take] at e
    dsimp only
    rw [if_pos (by omega), gt_ok hw, bsome, ck_in (room (by omega) (by omega)), ir_add1 (by omega), iadd (by omega), take_snoc' hw, pre1_snoc, List.length_take, Nat.zero_add, Nat.min_eq_left (by omega)]
    rfl
  · dsimp only
    rw [if_neg (by omega), List.take_length]
  · have e := pre1_len l 0
    rw [i_HeadText l hl, bsome, ck_in (room (by omega) (by omega))]
    refine bnd_up (fun i => (pre1 0 l ++ [evf, evw 0 (headText l), evf] ++ (l.take i).map (fun w => evw (n + 1 + w.pos) w.data), (i : Int))) l.length (pre1 0 l ++ [evf, evw 0 (headText l), evf] ++ l.map (fun w => evw (n + 1 + w.pos) w.data)) (by simp only [List.take_zero, List.map_nil, List.append_nil]; rfl) (fun i hi => ?_) ?_ ?_
    · obtain ⟨w, hw⟩ := get_some hi
      have := (h.rng i w hw).1
      dsimp only
      rw [if_pos (by omega), gt_ok hw, bsome, ck_in (room (by omega) (by simp; omega)), ir_add1 (by omega), iadd (a := n) (by omega), iadd (by omega), map_take_snoc (fun w => evw (n + 1 + w.pos) w.data) hw, ← List.append_assoc (pre1 0 l ++ [evf, evw 0 (headText l), evf])]
      rfl
    · dsimp only
      rw [if_neg (by omega), List.take_length]
    · rw [ck_in (room (by omega) (by simp; omega))]
      rfl
theorem s_Commit (n : Int) (l : List PutD) (hl : l.length ≤ 200) : sCommit n l = some (commit n l) := by
  unfold sCommit commit sl4Event
  simp only [s_TxOk n l (by omega), PN]
  refine if_2 (fun h => ?_) (fun h => by rw [if_neg h])
  rw [if_pos h]
  have hn := h.n1
  refine bnd_up (fun i => (pre1 0 (l.take i), (i : Int))) l.length (pre1 0 l) rfl (fun i hi => ?_) ?_ ?_
  · obtain ⟨w, hw⟩ := get_some hi
    have e := pre1_len (l.take i) 0
    rw [List.length_take] at e
    dsimp only
    rw [if_pos (by omega), gt_ok hw, bsome, ck_in (room (by omega) (by omega)), ir_add1 (by omega), iadd (by omega), take_snoc' hw, pre1_snoc, List.length_take, Nat.zero_add, Nat.min_eq_left (by omega)]
    rfl
  · dsimp only
    rw [if_neg (by omega), List.take_length]
  · have e := pre1_len l 0
    rw [s_HeadText l hl, bsome, ck_in (room (by omega) (by omega))]
    refine bnd_up (fun i => (pre1 0 l ++ [evf, evw 0 (headText l), evf] ++ (l.take i).map (fun w => evw (n + 1 + w.pos) w.data), (i : Int))) l.length (pre1 0 l ++ [evf, evw 0 (headText l), evf] ++ l.map (fun w => evw (n + 1 + w.pos) w.data)) (by simp only [List.take_zero, List.map_nil, List.append_nil]; rfl) (fun i hi => ?_) ?_ ?_
    · obtain ⟨w, hw⟩ := get_some hi
      have := (h.rng i w hw).1
      dsimp only
      rw [if_pos (by omega), gt_ok hw, bsome, ck_in (room (by omega) (by simp; omega)), ir_add1 (by omega), iadd (a := n) (by omega), iadd (by omega), map_take_snoc (fun w => evw (n + 1 + w.pos) w.data) hw, ← List.append_assoc (pre1 0 l ++ [evf, evw 0 (headText l), evf])]
      rfl
    · dsimp only
      rw [if_neg (by omega), List.take_length]
    · rw [ck_in (room (by omega) (by simp; omega))]
      rfl
noncomputable def stepEvents (p : PoolD) (s : StepD) : List EventD := open Classical in
  if 0 ≤ s.branch then (match p.branches[s.branch.toNat]? with
    | some b => if homesOf b.fs = homesOf s.fs then commit (homesOf b.fs) (diff b.fs s.fs) else []
    | none => []) else []
theorem i_StepEvents (p : PoolD) (s : StepD) (hp : p.branches.length ≤ 4000000) : iStepEvents p s = some (stepEvents p s) := by
  unfold iStepEvents stepEvents
  simp only [i_within, PN]
  rw [isub (by omega)]
  by_cases h0 : 0 ≤ s.branch
  · rw [if_pos h0]
    by_cases h1 : s.branch.toNat < p.branches.length
    · obtain ⟨b, hb⟩ := get_some h1
      rw [if_pos (by omega), gtI h0 hb, bsome, hb, i_HomesOf, bsome, i_HomesOf, bsome]
      dsimp only
      by_cases he : homesOf b.fs = homesOf s.fs
      · rw [if_neg (fun h => h he), if_pos he, bsome, i_Diff, bsome, i_Commit _ _ (by have := diff_len b.fs s.fs; omega), bsome]
      · rw [if_pos he, if_neg he]
    · rw [if_neg (by omega), List.getElem?_eq_none (by omega)]
  · rw [if_neg (by omega), if_neg h0]
theorem s_StepEvents (p : PoolD) (s : StepD) (hp : p.branches.length ≤ 4000000) : sStepEvents p s = some (stepEvents p s) := by
  unfold sStepEvents stepEvents
  simp only [s_l1In, PN]
  rw [isub (by omega)]
  by_cases h0 : 0 ≤ s.branch
  · rw [if_pos h0]
    by_cases h1 : s.branch.toNat < p.branches.length
    · obtain ⟨b, hb⟩ := get_some h1
      rw [if_pos (by omega), gtI h0 hb, bsome, hb, s_HomesOf, bsome, s_HomesOf, bsome]
      dsimp only
      by_cases he : homesOf b.fs = homesOf s.fs
      · rw [if_neg (fun h => h he), if_pos he, s_Diff, bsome, s_Commit _ _ (by have := diff_len b.fs s.fs; omega), bsome]
      · rw [if_pos he, if_neg he]
    · rw [if_neg (by omega), List.getElem?_eq_none (by omega)]
  · rw [if_neg (by omega), if_neg h0]
end Go.Ar
