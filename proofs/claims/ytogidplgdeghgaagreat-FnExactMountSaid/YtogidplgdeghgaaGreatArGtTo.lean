import Derived.Test.YtogidplgdeghgaaGreatArGt0
namespace Go.Ar
open Go.Proofs
set_option linter.unusedVariables false
set_option linter.unusedSimpArgs false
set_option maxRecDepth 20000
theorem ret_toStringS (l : List (List UInt8)) (hb : szL List.length l ≤ 68719476736) : Ret pg 60 true [.sl .shr 1 (rows strR l)] [] (.sl .own 1 (rows strR l)) := by
 refine ret_eq fun r hr => ?_
 have hl : l.length ≤ 68719476736 := Nat.le_trans (szL_len _ _) hb
 refine ret0 Tryz.func60 rfl (by decide +kernel) rfl (hr ▸ ⟨rfl, own_stringS _⟩) ?_
 cbv; simp only [F]
 refine ⟨ins_rows, room_rows hl (by omega), ?_⟩
 rw [show [V.s []] = strR [] from rfl, rep_rows, ← fillF_zero]
 refine LoopK.intro (α := Nat) [0, 3, 4] [] (fun i => [(3, .sl .own 1 (rows strR (fillF ([] : List UInt8) l i))), (4, .i .i64 i)]) (fun _ => []) (fun n i => n = l.length - i ∧ i ≤ l.length) ⟨_, 0, ⟨rfl, by omega⟩, rfl⟩ fun n i hi => ?_
 obtain ⟨rfl, hi⟩ := hi
 generalize hx : fillF ([] : List UInt8) l i = x
 cbv; simp only [F]
 split <;> (rename_i h; simp only [h]; cbv; simp only [F])
 ·have h' := lt_llen h
  clear h
  obtain ⟨y, hy⟩ := get_lt (l := l) (i := i) h'
  refine ⟨inr_rowsN hy, _, at_rowsN hy, ?_⟩
  cbv; simp only [F]
  have hxl : x.length = l.length := by rw [← hx]; exact fillF_len _ l i hi
  obtain ⟨z, hz⟩ := get_lt (l := x) (i := i) (by omega)
  refine ⟨inr_rowsN hz, _, at_rowsN hz, ?_⟩
  cbv; simp only [F]
  rw [show [V.s y] = strR y from rfl, set_rowsN, ← hx, fillF_set _ _ _ _ hy, add_one h' (by omega)]
  exact ⟨_, i + 1, ⟨Nat.sub_succ_lt_self _ _ h', rfl, h'⟩, rfl⟩
 ·have h' := ge_llen h
  rw [fillF_all _ _ _ h'] at hx
  subst hx
  exact LeV.to hr (LeF.rfl' _)
theorem ret_toPut (x : PutD) (hb : sizePut x ≤ 68719476736) : Ret pg 133 true [.ag (putC x)] [] (.ag (putR x)) := by
 refine ret_eq fun r hr => ?_
 refine ret0 Tryz.func133 rfl (by decide +kernel) rfl (hr ▸ own_putR x) ?_
 cbv; simp only [F]
 exact LeV.to hr (LeF.rfl' _)
theorem ret_toPutS (l : List (PutD)) (hb : szL sizePut l ≤ 68719476736) : Ret pg 61 true [.sl .shr 2 (rows putR l)] [] (.sl .own 2 (rows putR l)) := by
 refine ret_eq fun r hr => ?_
 have hl : l.length ≤ 68719476736 := Nat.le_trans (szL_len _ _) hb
 refine ret0 Tryz.func61 rfl (by decide +kernel) rfl (hr ▸ ⟨rfl, own_putS _⟩) ?_
 cbv; simp only [F]
 refine ⟨ins_rows, room_rows hl (by omega), ?_⟩
 rw [← putR_0, rep_rows, ← fillF_zero]
 refine LoopK.intro (α := Nat) [0, 3, 4] [] (fun i => [(3, .sl .own 2 (rows putR (fillF put0 l i))), (4, .i .i64 i)]) (fun _ => []) (fun n i => n = l.length - i ∧ i ≤ l.length) ⟨_, 0, ⟨rfl, by omega⟩, rfl⟩ fun n i hi => ?_
 obtain ⟨rfl, hi⟩ := hi
 generalize hx : fillF put0 l i = x
 cbv; simp only [F]
 split <;> (rename_i h; simp only [h]; cbv; simp only [F])
 ·have h' := lt_llen h
  clear h
  obtain ⟨y, hy⟩ := get_lt (l := l) (i := i) h'
  refine ⟨inr_rowsN hy, _, at_rowsN hy, ?_⟩
  cbv; simp only [F]
  refine CallK.intro (ret_toPut y (Nat.le_trans (szL_at sizePut hy) hb)) ?_
  cbv; simp only [F]
  have hxl : x.length = l.length := by rw [← hx]; exact fillF_len _ l i hi
  obtain ⟨z, hz⟩ := get_lt (l := x) (i := i) (by omega)
  refine ⟨inr_rowsN hz, _, at_rowsN hz, ?_⟩
  cbv; simp only [F]
  rw [show [.i .i64 y.pos, .s y.data] = putR y from rfl, set_rowsN, ← hx, fillF_set _ _ _ _ hy, add_one h' (by omega)]
  exact ⟨_, i + 1, ⟨Nat.sub_succ_lt_self _ _ h', rfl, h'⟩, rfl⟩
 ·have h' := ge_llen h
  rw [fillF_all _ _ _ h'] at hx
  subst hx
  exact LeV.to hr (LeF.rfl' _)
theorem ret_toDisk (x : DiskD) (hb : sizeDisk x ≤ 68719476736) : Ret pg 17 true [.ag (diskC x)] [] (.ag (diskR x)) := by
 refine ret_eq fun r hr => ?_
 refine ret0 Tryz.func17 rfl (by decide +kernel) rfl (hr ▸ own_diskR x) ?_
 cbv; simp only [F]
 refine CallK.intro (ret_toStringS x.sectors (by unfold sizeDisk at hb; omega)) ?_
 cbv; simp only [F]
 refine CallK.intro (ret_toPutS x.pend (by unfold sizeDisk at hb; omega)) ?_
 cbv; simp only [F]
 exact LeV.to hr (LeF.rfl' _)
end Go.Ar
