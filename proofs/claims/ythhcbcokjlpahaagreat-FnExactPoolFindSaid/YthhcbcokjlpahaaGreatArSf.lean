import Derived.Test.YthhcbcokjlpahaaGreatChecked
import Derived.Shelf.Lays
import Derived.Shelf.Strings.BuilderX
import Derived.KernelRfl
import Derived.Test.YthhcbcokjlpahaaGreatArSd
import Derived.Shelf.Small.Strs
import Derived.Shelf.Strings.OnBuilder
import Derived.Shelf.SlSortCmp.NoneTotal
section
namespace Go.Ar
open Go.Proofs Go.Shelf
/-- The numbers of the shelf's functions and types in this program (printed by wip/lays.py). -/
def shelfR:Ren:=⟨fun n=>bif Nat.beq n 0 then 0 else (bif Nat.beq n 1 then 1 else (bif Nat.beq n 2 then 2 else (bif Nat.beq n 99 then 169 else (bif Nat.beq n 101 then 176 else (bif Nat.beq n 105 then 225 else (bif Nat.beq n 106 then 213 else (bif Nat.beq n 107 then 317 else (bif Nat.beq n 108 then 332 else (bif Nat.beq n 125 then 212 else (bif Nat.beq n 128 then 271 else (bif Nat.beq n 129 then 272 else (bif Nat.beq n 156 then 274 else (bif Nat.beq n 165 then 278 else (bif Nat.beq n 166 then 279 else (bif Nat.beq n 169 then 281 else (bif Nat.beq n 170 then 280 else (bif Nat.beq n 206 then 224 else (bif Nat.beq n 208 then 226 else (bif Nat.beq n 212 then 277 else (bif Nat.beq n 213 then 273 else (bif Nat.beq n 240 then 312 else (bif Nat.beq n 241 then 313 else (bif Nat.beq n 263 then 310 else (bif Nat.beq n 264 then 311 else (bif Nat.beq n 265 then 309 else (bif Nat.beq n 276 then 329 else (bif Nat.beq n 277 then 330 else (bif Nat.beq n 329 then 305 else (bif Nat.beq n 330 then 306 else (bif Nat.beq n 347 then 339 else (bif Nat.beq n 348 then 340 else (bif Nat.beq n 349 then 341 else (bif Nat.beq n 350 then 342 else (bif Nat.beq n 351 then 343 else (bif Nat.beq n 352 then 344 else (bif Nat.beq n 353 then 345 else (bif Nat.beq n 354 then 346 else (bif Nat.beq n 355 then 347 else (bif Nat.beq n 356 then 348 else (bif Nat.beq n 357 then 349 else (bif Nat.beq n 358 then 350 else (bif Nat.beq n 359 then 351 else (bif Nat.beq n 360 then 352 else (bif Nat.beq n 361 then 353 else (bif Nat.beq n 362 then 354 else (bif Nat.beq n 366 then 355 else (n))))))))))))))))))))))))))))))))))))))))))))))),fun n=>bif Nat.beq n 0 then 0 else (bif Nat.beq n 1 then 1 else (bif Nat.beq n 2 then 2 else (bif Nat.beq n 3 then 3 else (bif Nat.beq n 4 then 4 else (bif Nat.beq n 5 then 5 else (bif Nat.beq n 6 then 6 else (bif Nat.beq n 7 then 7 else (bif Nat.beq n 8 then 8 else (bif Nat.beq n 9 then 9 else (bif Nat.beq n 10 then 10 else (bif Nat.beq n 11 then 11 else (bif Nat.beq n 12 then 12 else (bif Nat.beq n 13 then 13 else (bif Nat.beq n 14 then 14 else (bif Nat.beq n 15 then 15 else (bif Nat.beq n 16 then 16 else (bif Nat.beq n 17 then 17 else (bif Nat.beq n 18 then 18 else (bif Nat.beq n 19 then 19 else (bif Nat.beq n 20 then 20 else (bif Nat.beq n 21 then 21 else (bif Nat.beq n 22 then 103 else (bif Nat.beq n 23 then 165 else (bif Nat.beq n 24 then 113 else (bif Nat.beq n 26 then 162 else (bif Nat.beq n 27 then 190 else (bif Nat.beq n 28 then 128 else (bif Nat.beq n 29 then 257 else (bif Nat.beq n 30 then 174 else (bif Nat.beq n 31 then 44 else (bif Nat.beq n 34 then 277 else (bif Nat.beq n 37 then 147 else (bif Nat.beq n 43 then 95 else (bif Nat.beq n 46 then 189 else (bif Nat.beq n 47 then 188 else (bif Nat.beq n 51 then 228 else (bif Nat.beq n 52 then 227 else (bif Nat.beq n 53 then 230 else (bif Nat.beq n 54 then 229 else (bif Nat.beq n 67 then 231 else (bif Nat.beq n 68 then 153 else (bif Nat.beq n 69 then 148 else (bif Nat.beq n 70 then 235 else (bif Nat.beq n 71 then 236 else (bif Nat.beq n 72 then 237 else (bif Nat.beq n 73 then 238 else (bif Nat.beq n 74 then 239 else (bif Nat.beq n 75 then 240 else (bif Nat.beq n 76 then 241 else (bif Nat.beq n 77 then 242 else (bif Nat.beq n 80 then 244 else (bif Nat.beq n 81 then 243 else (bif Nat.beq n 83 then 97 else (bif Nat.beq n 101 then 46 else (bif Nat.beq n 102 then 191 else (bif Nat.beq n 104 then 84 else (bif Nat.beq n 109 then 233 else (bif Nat.beq n 110 then 234 else (bif Nat.beq n 111 then 170 else (bif Nat.beq n 112 then 209 else (bif Nat.beq n 114 then 206 else (bif Nat.beq n 127 then 269 else (bif Nat.beq n 131 then 225 else (bif Nat.beq n 146 then 265 else (bif Nat.beq n 147 then 266 else (bif Nat.beq n 148 then 267 else (bif Nat.beq n 149 then 268 else (bif Nat.beq n 164 then 282 else (bif Nat.beq n 165 then 283 else (bif Nat.beq n 166 then 248 else (bif Nat.beq n 182 then 220 else (bif Nat.beq n 183 then 221 else (bif Nat.beq n 218 then 259 else (bif Nat.beq n 219 then 260 else (bif Nat.beq n 220 then 261 else (bif Nat.beq n 222 then 263 else (bif Nat.beq n 228 then 279 else (bif Nat.beq n 229 then 280 else (bif Nat.beq n 238 then 288 else (bif Nat.beq n 239 then 289 else (bif Nat.beq n 240 then 290 else (bif Nat.beq n 241 then 291 else (bif Nat.beq n 242 then 292 else (bif Nat.beq n 243 then 293 else (bif Nat.beq n 244 then 294 else (bif Nat.beq n 245 then 295 else (bif Nat.beq n 246 then 296 else (bif Nat.beq n 247 then 297 else (bif Nat.beq n 248 then 298 else (bif Nat.beq n 249 then 299 else (n))))))))))))))))))))))))))))))))))))))))))))))))))))))))))))))))))))))))))))))))))))))))))),fun n=>bif Nat.beq n 1 then 0 else (n)⟩
theorem lays_n105:Lays.n105 Tryz.prog shelfR where
 mixed:=by kernel_rfl
 f99:=by kernel_rfl
 f105:=by kernel_rfl
 f165:=by kernel_rfl
 f166:=by kernel_rfl
 f169:=by kernel_rfl
 f170:=by kernel_rfl
 f206:=by kernel_rfl
 f212:=by kernel_rfl
 f240:=by kernel_rfl
 f241:=by kernel_rfl
 f263:=by kernel_rfl
 f264:=by kernel_rfl
 f276:=by kernel_rfl
 f277:=by kernel_rfl
 t0:=by kernel_rfl
 a0:=fun w=>by kernel_rfl
 z0:=fun w=>by kernel_rfl
 v0:=fun w=>by kernel_rfl
 t3:=by kernel_rfl
 a3:=fun w=>by kernel_rfl
 z3:=fun w=>by kernel_rfl
 v3:=fun w=>by kernel_rfl
 t4:=by kernel_rfl
 a4:=fun w=>by kernel_rfl
 z4:=fun w=>by kernel_rfl
 v4:=fun w=>by kernel_rfl
 t5:=by kernel_rfl
 a5:=fun w=>by kernel_rfl
 z5:=fun w=>by kernel_rfl
 v5:=fun w=>by kernel_rfl
 t9:=by kernel_rfl
 a9:=fun w=>by kernel_rfl
 z9:=fun w=>by kernel_rfl
 v9:=fun w=>by kernel_rfl
 t20:=by kernel_rfl
 a20:=fun w=>by kernel_rfl
 z20:=fun w=>by kernel_rfl
 v20:=fun w=>by kernel_rfl
 t37:=by kernel_rfl
 a37:=fun w=>by kernel_rfl
 z37:=fun w=>by kernel_rfl
 v37:=fun w=>by kernel_rfl
 t46:=by kernel_rfl
 a46:=fun w=>by kernel_rfl
 z46:=fun w=>by kernel_rfl
 v46:=fun w=>by kernel_rfl
 t51:=by kernel_rfl
 a51:=fun w=>by kernel_rfl
 z51:=fun w=>by kernel_rfl
 v51:=fun w=>by kernel_rfl
 t53:=by kernel_rfl
 a53:=fun w=>by kernel_rfl
 z53:=fun w=>by kernel_rfl
 v53:=fun w=>by kernel_rfl
 t70:=by kernel_rfl
 a70:=fun w=>by kernel_rfl
 z70:=fun w=>by kernel_rfl
 v70:=fun w=>by kernel_rfl
 t72:=by kernel_rfl
 a72:=fun w=>by kernel_rfl
 z72:=fun w=>by kernel_rfl
 v72:=fun w=>by kernel_rfl
 t75:=by kernel_rfl
 a75:=fun w=>by kernel_rfl
 z75:=fun w=>by kernel_rfl
 v75:=fun w=>by kernel_rfl
 t76:=by kernel_rfl
 a76:=fun w=>by kernel_rfl
 z76:=fun w=>by kernel_rfl
 v76:=fun w=>by kernel_rfl
 t109:=by kernel_rfl
 a109:=fun w=>by kernel_rfl
 z109:=fun w=>by kernel_rfl
 v109:=fun w=>by kernel_rfl
 t127:=by kernel_rfl
 a127:=fun w=>by kernel_rfl
 z127:=fun w=>by kernel_rfl
 v127:=fun w=>by kernel_rfl
 t146:=by kernel_rfl
 a146:=fun w=>by kernel_rfl
 z146:=fun w=>by kernel_rfl
 v146:=fun w=>by kernel_rfl
 t148:=by kernel_rfl
 a148:=fun w=>by kernel_rfl
 z148:=fun w=>by kernel_rfl
 v148:=fun w=>by kernel_rfl
 t164:=by kernel_rfl
 a164:=fun w=>by kernel_rfl
 z164:=fun w=>by kernel_rfl
 v164:=fun w=>by kernel_rfl
theorem lays_n106:Lays.n106 Tryz.prog shelfR where
 mixed:=by kernel_rfl
 f106:=by kernel_rfl
 f213:=by kernel_rfl
 f265:=by kernel_rfl
 t3:=by kernel_rfl
 a3:=fun w=>by kernel_rfl
 z3:=fun w=>by kernel_rfl
 v3:=fun w=>by kernel_rfl
 t9:=by kernel_rfl
 a9:=fun w=>by kernel_rfl
 z9:=fun w=>by kernel_rfl
 v9:=fun w=>by kernel_rfl
theorem lays_n156:Lays.n156 Tryz.prog shelfR where
 mixed:=by kernel_rfl
 f156:=by kernel_rfl
 f165:=by kernel_rfl
 f166:=by kernel_rfl
 f169:=by kernel_rfl
 f240:=by kernel_rfl
 f241:=by kernel_rfl
 f276:=by kernel_rfl
 f277:=by kernel_rfl
 t0:=by kernel_rfl
 a0:=fun w=>by kernel_rfl
 z0:=fun w=>by kernel_rfl
 v0:=fun w=>by kernel_rfl
 t3:=by kernel_rfl
 a3:=fun w=>by kernel_rfl
 z3:=fun w=>by kernel_rfl
 v3:=fun w=>by kernel_rfl
 t4:=by kernel_rfl
 a4:=fun w=>by kernel_rfl
 z4:=fun w=>by kernel_rfl
 v4:=fun w=>by kernel_rfl
 t9:=by kernel_rfl
 a9:=fun w=>by kernel_rfl
 z9:=fun w=>by kernel_rfl
 v9:=fun w=>by kernel_rfl
 t20:=by kernel_rfl
 a20:=fun w=>by kernel_rfl
 z20:=fun w=>by kernel_rfl
 v20:=fun w=>by kernel_rfl
 t31:=by kernel_rfl
 a31:=fun w=>by kernel_rfl
 z31:=fun w=>by kernel_rfl
 v31:=fun w=>by kernel_rfl
 t37:=by kernel_rfl
 a37:=fun w=>by kernel_rfl
 z37:=fun w=>by kernel_rfl
 v37:=fun w=>by kernel_rfl
 t70:=by kernel_rfl
 a70:=fun w=>by kernel_rfl
 z70:=fun w=>by kernel_rfl
 v70:=fun w=>by kernel_rfl
 t72:=by kernel_rfl
 a72:=fun w=>by kernel_rfl
 z72:=fun w=>by kernel_rfl
 v72:=fun w=>by kernel_rfl
 t75:=by kernel_rfl
 a75:=fun w=>by kernel_rfl
 z75:=fun w=>by kernel_rfl
 v75:=fun w=>by kernel_rfl
 t76:=by kernel_rfl
 a76:=fun w=>by kernel_rfl
 z76:=fun w=>by kernel_rfl
 v76:=fun w=>by kernel_rfl
 t127:=by kernel_rfl
 a127:=fun w=>by kernel_rfl
 z127:=fun w=>by kernel_rfl
 v127:=fun w=>by kernel_rfl
 t164:=by kernel_rfl
 a164:=fun w=>by kernel_rfl
 z164:=fun w=>by kernel_rfl
 v164:=fun w=>by kernel_rfl
theorem lays_X:Builder.Extra Tryz.prog shelfR where
 sizeBuilder:=by kernel_rfl
 liesBuilder:=by kernel_rfl
 t5:=by kernel_rfl
 a5:=fun w=>by kernel_rfl
 z5:=fun w=>by kernel_rfl
 v5:=fun w=>by kernel_rfl
 infoByte:=by kernel_rfl
 cellsByte:=by kernel_rfl
 sizeByte:=by kernel_rfl
 neB5:=by decide +kernel
end Go.Ar
end
section
namespace Go.Ar
open Go.Proofs
set_option linter.unusedVariables false
set_option linter.unusedSimpArgs false
set_option maxRecDepth 20000
/-! strings.Compare and strings.Join, out of the kit's shelf. -/
theorem post_of_below{w w':World}{Sh H:Nat→Prop}{r:V}{u:Value}{e:Ending}(he:e=.returned u)(bel:RowKit.Below w.heap.size w w')(h1:∀b,Sh b→b<w.heap.size)
  (hr:∀ (w:World) (S:Nat→Prop),RepT w S (fun _=>none) r u (fun _=>False)):Post true w Sh H r e w' :=
 ⟨u,Sh,fun _=>False,he,fun S hS=>hr w' S,fun b hb=>hb,fun b hb=>⟨Nat.lt_of_lt_of_le (h1 b hb) bel.size,.inl hb⟩,fun b hb=>hb.elim,fun b hb _=>bel.block b hb,bel.size,bel.os,bel.tape,bel.output⟩
theorem repTs_two{w:World}{Sh:Nat→Prop}{ρ:Rt→Option Sr}{c d:V}{vs:List Value}{T:Nat→Prop}(h:RepTs w Sh ρ [c,d] vs T):∃v u T1 T2,vs=[v,u]∧RepT w Sh ρ c v T1∧RepT w Sh ρ d u T2:=by
 match vs,h with
 | [v,v'],h =>
  simp only [RepTs] at h
  obtain⟨T1,_,h1,⟨T2,_,h2,_⟩,_⟩:=h
  exact ⟨v,v',T1,T2,rfl,h1,h2⟩
 | [],h=>simp only [RepTs] at h
 | [_],h=>simp only [RepTs] at h;obtain⟨_,_,_,h,_⟩:=h;exact h.elim
 | _::_::_::_,h=>simp only [RepTs] at h;obtain⟨_,_,_,⟨_,_,_,h,_⟩,_⟩:=h;exact h.elim
theorem r_gstrings_Join{a0:List (List UInt8)}{a1:List UInt8}{r:List UInt8}(h:gstrings_Join a0 a1=some r):Ret pg 274 true [.sl .shr 1 (rows strR a0),.s a1] [] (.s r):=by
 unfold gstrings_Join at h
 split at h
 case isFalse=>cases h
 rename_i hc
 obtain rfl:=Option.some.inj h
 refine ⟨⟨_,pg_func Tryz.func274,rfl,rfl⟩,fun w Sh H l vs h1 h2 h3 h4=>?_⟩
 obtain⟨v,u,T1,T2,rfl,q1,q2⟩:=repTs_two h3
 simp only [RepT] at q1 q2
 subst q2
 rw [pg_eq]
 have hR:∀ (w:World) (S:Nat→Prop),RepT w S (fun _=>none) (.s (Lib.join a0 a1)) (.string ⟨(Lib.join a0 a1).toArray⟩) (fun _=>False):=fun w S=>by simp only [RepT]
 have hmap:(a0.map fun x=>(⟨x.toArray⟩:ByteArray)).map (·.data.toList)=a0:=by rw [List.map_map];exact (List.map_congr_left fun x _=>by simp).trans (List.map_id _)
 rcases q1 with ⟨⟨al,rfl⟩,hx⟩ | ⟨b,o,c,rfl,g1,g2,q1⟩
 ·have hx:a0=[]:=(rows_nil_iff _ _).1 hx
  subst hx
  exact (Any.strings_Join_none lays_n156 lays_X al 0 ⟨a1.toArray⟩ w).mono fun e w' ⟨he,hw⟩=>post_of_below he (hw▸RowKit.Below.refl _ _) h1 hR
 ·have q1:(rows strR a0≠[]→Sh b)∧RepRows w Sh Fl.shr 1 (rows strR a0) b o (fun _=>False):=by
   rcases q1 with ⟨_,hs,hr⟩ | ⟨hm,_⟩ | ⟨hm,_⟩
   ·exact ⟨hs,hr⟩
   ·cases hm
   ·cases hm
  obtain⟨hs,hr⟩:=q1
  have hl:(rows strR a0).length=a0.length:=by rw [rows_eq,List.length_map]
  rw [hl] at g1 ⊢
  by_cases hn:a0=[]
  ·subst hn
   exact (Any.strings_Join_none lays_n156 lays_X _ c ⟨a1.toArray⟩ w).mono fun e w' ⟨he,hw⟩=>post_of_below he (hw▸RowKit.Below.refl _ _) h1 hR
  have:=Any.strings_Join lays_n156 lays_X b o c (a0.map fun x=>⟨x.toArray⟩) ⟨a1.toArray⟩ w (fun j x hx=>?_) (h1 b (hs fun e=>hn ((rows_nil_iff _ _).1 e))) (by rw [List.length_map];exact hc.1) (by rw [List.length_map];exact g1) (by rw [hmap];exact hc.2)
  ·rw [hmap,List.length_map] at this
   exact this.mono fun e w' ⟨he,bel⟩=>post_of_below he bel h1 hR
  ·rw [List.getElem?_map] at hx
   obtain⟨y,hy,rfl⟩:=Option.map_eq_some_iff.1 hx
   obtain⟨S1,S2,_,hrow,_⟩:=RepRows.focus (rows strR a0) o _ j (strR y) hr (by rw [rows_eq,List.getElem?_map,hy];rfl)
   obtain⟨v,U1,U2,hv,hrep,_⟩:=RepRow.focus (strR y) _ _ 0 (.s y) hrow (by simp [strR])
   simp only [RepC] at hrep
   subst hrep
   rw [Nat.add_zero,Nat.mul_one] at hv
   exact hv
instance k_gstrings_Join {a0:List (List UInt8)} {a1:List UInt8}:Kn (gstrings_Join a0 a1) fun r=>Ret pg 274 true [.sl .shr 1 (rows strR a0),.s a1] [] (.s r):=⟨r_gstrings_Join⟩
end Go.Ar
end
section
namespace Go.Ar
open Go.Proofs Go.Shelf
set_option linter.unusedVariables false
set_option maxRecDepth 20000
def lays_sort_ren:Go.Shelf.Ren:=⟨fun | 6=>152 | 15=>212 | 14=>211 | 28=>271 | 29=>272 | 20=>263 | 21=>264 | 22=>265 | 23=>266 | 24=>267 | 25=>268 | 26=>269 | 27=>270 | 46=>304 | 47=>305 | 48=>306 | 49=>307 | 50=>308 | 57=>328 | n=>n,fun | 22=>59 | 24=>29 | 25=>146 | 3=>3 | 39=>189 | 0=>0 | 53=>228 | 55=>230 | 4=>4 | 46=>221 | 45=>220 | 50=>225 | 5=>5 | 9=>9 | 66=>259 | 70=>263 | 76=>279 | 77=>280 | n=>n,fun | n=>n⟩
theorem lays_sort:Go.Proofs.SlLaysF0.n6 Tryz.prog lays_sort_ren where
 mixed:=by kernel_rfl
 f6 := ⟨"slices.SortFunc[[]loop.example/g00483/impl.Item,loop.example/g00483/impl.Item]", by decide, Tryz.func152.trans (congrArg some (by kernel_rfl))⟩
 f14 := ⟨"slices.pdqsortCmpFunc[loop.example/g00483/impl.Item]", by decide, Tryz.func211.trans (congrArg some (by kernel_rfl))⟩
 f15:=Tryz.func212.trans (congrArg some (by kernel_rfl))
 f20 := ⟨"slices.insertionSortCmpFunc[loop.example/g00483/impl.Item]", by decide, Tryz.func263.trans (congrArg some (by kernel_rfl))⟩
 f21 := ⟨"slices.heapSortCmpFunc[loop.example/g00483/impl.Item]", by decide, Tryz.func264.trans (congrArg some (by kernel_rfl))⟩
 f22 := ⟨"slices.breakPatternsCmpFunc[loop.example/g00483/impl.Item]", by decide, Tryz.func265.trans (congrArg some (by kernel_rfl))⟩
 f23 := ⟨"slices.choosePivotCmpFunc[loop.example/g00483/impl.Item]", by decide, Tryz.func266.trans (congrArg some (by kernel_rfl))⟩
 f24 := ⟨"slices.reverseRangeCmpFunc[loop.example/g00483/impl.Item]", by decide, Tryz.func267.trans (congrArg some (by kernel_rfl))⟩
 f25 := ⟨"slices.partialInsertionSortCmpFunc[loop.example/g00483/impl.Item]", by decide, Tryz.func268.trans (congrArg some (by kernel_rfl))⟩
 f26 := ⟨"slices.partitionEqualCmpFunc[loop.example/g00483/impl.Item]", by decide, Tryz.func269.trans (congrArg some (by kernel_rfl))⟩
 f27 := ⟨"slices.partitionCmpFunc[loop.example/g00483/impl.Item]", by decide, Tryz.func270.trans (congrArg some (by kernel_rfl))⟩
 f28:=Tryz.func271.trans (congrArg some (by kernel_rfl))
 f29:=Tryz.func272.trans (congrArg some (by kernel_rfl))
 f46 := ⟨"slices.siftDownCmpFunc[loop.example/g00483/impl.Item]", by decide, Tryz.func304.trans (congrArg some (by kernel_rfl))⟩
 f47:=Tryz.func305.trans (congrArg some (by kernel_rfl))
 f48:=Tryz.func306.trans (congrArg some (by kernel_rfl))
 f49 := ⟨"slices.medianAdjacentCmpFunc[loop.example/g00483/impl.Item]", by decide, Tryz.func307.trans (congrArg some (by kernel_rfl))⟩
 f50 := ⟨"slices.medianCmpFunc[loop.example/g00483/impl.Item]", by decide, Tryz.func308.trans (congrArg some (by kernel_rfl))⟩
 f57 := ⟨"slices.order2CmpFunc[loop.example/g00483/impl.Item]", by decide, Tryz.func328.trans (congrArg some (by kernel_rfl))⟩
 t0:=Tryz.underlying0
 a0:=Tryz.isAgg0
 z0:=Tryz.sizeOf0
 v0:=Tryz.zeroValue0
 t3:=Tryz.underlying3
 a3:=Tryz.isAgg3
 z3:=Tryz.sizeOf3
 v3:=Tryz.zeroValue3
 t4:=Tryz.underlying4
 a4:=Tryz.isAgg4
 z4:=Tryz.sizeOf4
 v4:=Tryz.zeroValue4
 t5:=Tryz.underlying5
 a5:=Tryz.isAgg5
 z5:=Tryz.sizeOf5
 v5:=Tryz.zeroValue5
 t9:=Tryz.underlying9
 a9:=Tryz.isAgg9
 z9:=Tryz.sizeOf9
 v9:=Tryz.zeroValue9
 t22:=Tryz.underlying59
 a22:=Tryz.isAgg59
 z22:=Tryz.sizeOf59
 v22:=Tryz.zeroValue59
 t25:=Tryz.underlying146
 a25:=Tryz.isAgg146
 z25:=Tryz.sizeOf146
 v25:=Tryz.zeroValue146
 t39:=Tryz.underlying189
 a39:=Tryz.isAgg189
 z39:=Tryz.sizeOf189
 v39:=Tryz.zeroValue189
 t45:=Tryz.underlying220
 a45:=Tryz.isAgg220
 z45:=Tryz.sizeOf220
 v45:=Tryz.zeroValue220
 t46:=Tryz.underlying221
 a46:=Tryz.isAgg221
 z46:=Tryz.sizeOf221
 v46:=Tryz.zeroValue221
 t50:=Tryz.underlying225
 a50:=Tryz.isAgg225
 z50:=Tryz.sizeOf225
 v50:=Tryz.zeroValue225
 t53:=Tryz.underlying228
 a53:=Tryz.isAgg228
 z53:=Tryz.sizeOf228
 v53:=Tryz.zeroValue228
 t55:=Tryz.underlying230
 a55:=Tryz.isAgg230
 z55:=Tryz.sizeOf230
 v55:=Tryz.zeroValue230
 t66:=Tryz.underlying259
 a66:=Tryz.isAgg259
 z66:=Tryz.sizeOf259
 v66:=Tryz.zeroValue259
 t70:=Tryz.underlying263
 a70:=Tryz.isAgg263
 z70:=Tryz.sizeOf263
 v70:=Tryz.zeroValue263
 t76:=Tryz.underlying279
 a76:=Tryz.isAgg279
 z76:=Tryz.sizeOf279
 v76:=Tryz.zeroValue279
 t77:=Tryz.underlying280
 a77:=Tryz.isAgg280
 z77:=Tryz.sizeOf280
 v77:=Tryz.zeroValue280
end Go.Ar
end
section
namespace Go.Ar
open Go.Proofs Go.Shelf Go.RowKit Go.Sort
set_option linter.unusedVariables false
set_option linter.unusedSimpArgs false
set_option maxRecDepth 20000
/-! slices.SortFunc over items, out of the kit's shelf. -/
noncomputable def encI(x:ItemD):List Value:=(itemR x).map valC
theorem encI_eq(x:ItemD):encI x=[.string ⟨x.path.toArray⟩,.int .i64 x.kind,.string ⟨x.data.toArray⟩,.int .i64 x.time]:=rfl
set_option maxHeartbeats 1000000 in
theorem calls_byPath(x y:ItemD)(W:World):Calls Tryz.prog 153 #[.agg (encI x).toArray,.agg (encI y).toArray] W fun e w'=>e=.returned (.int .i64 (cfI x y))∧∃q os',w'=Sort.grow (W.drewN q) os':=by
 have hcon:=fun W'=>Any.strings_Compare lays_n106 ⟨x.path.toArray⟩ ⟨y.path.toArray⟩ W'
 change ∀W',Calls Tryz.prog 213 _ _ _ at hcon
 rw [encI_eq,encI_eq]
 unfold cfI
 simp only [List.toList_toArray] at hcon
 generalize Lib.compareBytes x.path y.path=r at hcon ⊢
 go_enter Tryz.func153,Tryz.ntmps153
 go_wp2_with (go_at_call 213;refine (hcon _).mono ?_;rintro e w' ⟨rfl,rfl⟩)
 go_ret
 exact ⟨rfl,0,_,by rw [Sort.alloc_eq_grow,Sort.alloc_eq_grow,Sort.grow_grow];rfl⟩
theorem flat_get{α:Type}(f:α→List V){k:Nat}(h0:0<k)(hk:∀x,(f x).length=k):∀ (l:List α) (j:Nat) (c:V),(l.map f).flatten[j]?=some c↔∃x,l[j / k]?=some x∧(f x)[j % k]?=some c
 | [],j,c=>by simp
 | x::l,j,c=>by
  rw [List.map_cons,List.flatten_cons]
  by_cases hj:j<k
  ·rw [List.getElem?_append_left (by rw [hk];exact hj),Nat.div_eq_of_lt hj,Nat.mod_eq_of_lt hj]
   exact ⟨fun h=>⟨x,rfl,h⟩,fun⟨y,h1,h2⟩=>by cases h1;exact h2⟩
  ·rw [List.getElem?_append_right (by rw [hk];omega),hk,flat_get f h0 hk l (j-k) c]
   have e:j=j-k+k:=by omega
   have e1:j / k=(j-k) / k+1:=by conv=>lhs;rw [e];rw [Nat.add_div_right _ h0]
   have e2:j % k=(j-k) % k:=by conv=>lhs;rw [e];rw [Nat.add_mod_right]
   rw [e1,e2,List.getElem?_cons_succ]
theorem flatK_get{α:Type}[Inhabited α](f:α→List V){k:Nat}(h0:0<k)(hk:∀x,(f x).length=k)(l:List α)(j:Nat)(c:V)(h:(l.map f).flatten[j]?=some c):j<(flatK (fun x=>(f x).map valC) k l.toArray).size∧(flatK (fun x=>(f x).map valC) k l.toArray)[j]! = valC c:=by
 obtain⟨x,h1,h2⟩:=(flat_get f h0 hk l j c).1 h
 have hl:=(List.getElem?_eq_some_iff.1 h1).1
 have hj:j<l.length*k:=(Nat.div_lt_iff_lt_mul h0).1 hl
 refine ⟨by rw [size_flatK];simpa using hj,?_⟩
 rw [get_flatK _ _ _ _ (by simpa using hj)]
 have e1:l.toArray[j / k]! = x:=by
  rw [getElem!_pos _ _ (by simpa using hl)]
  have:=(List.getElem?_eq_some_iff.1 h1).2
  simpa using this
 rw [e1]
 have hm:=(List.getElem?_eq_some_iff.1 h2).1
 rw [getElem!_pos _ _ (by simpa using hm)]
 have:=(List.getElem?_eq_some_iff.1 h2).2
 simp [this]
theorem items_scal(l:List ItemD):∀r∈l.map itemR,scals r=true:=by
 intro r hr
 obtain⟨x,_,rfl⟩:=List.mem_map.1 hr
 rfl
theorem items_len(l:List ItemD):∀r∈l.map itemR,r.length=4:=by
 intro r hr
 obtain⟨x,_,rfl⟩:=List.mem_map.1 hr
 rfl
theorem frozen_no{w:World}{b o n j:Nat}(h:BlockOk w b o n)(hj:j<n):w.frozen? ⟨b,o+j,none⟩=false:=by
 obtain⟨cur,e,⟨lo,hi⟩,h1,h2,h3⟩:=h
 unfold World.frozen?
 rw [h1]
 dsimp only at h3 ⊢
 rw [Bool.and_eq_false_iff]
 by_cases h4:lo≤o+j
 ·exact .inr (by simp;omega)
 ·exact .inl (by simpa using h4)
theorem holds_items{w:World}{Sh:Nat→Prop}{b o c:Nat}{l:List ItemD}{T:Nat→Prop}(h:RepRows w Sh .own 4 (l.map itemR) b o T)(hb:BlockOk w b o (c*4))(hc:l.length≤c):HoldsK encI 4 w b o l.toArray:=by
 intro j hj
 rw [size_flatK] at hj
 simp only [List.size_toArray] at hj
 have hd:j / 4<l.length:=by omega
 have hx:=List.getElem?_eq_getElem hd
 have hm:j % 4<(itemR l[j / 4]).length:=by show j % 4<4;omega
 have hc2:=(flat_get itemR (by decide) (fun _=>rfl) l j (itemR l[j / 4])[j % 4]).2 ⟨_,hx,List.getElem?_eq_getElem hm⟩
 have h1:=(rows_vals _ o T (items_scal l) h).2 j _ hc2
 have h2:=(flatK_get itemR (k:=4) (by decide) (fun _=>rfl) l j _ hc2).2
 refine ⟨?_,frozen_no hb (by omega)⟩
 rw [h1,show (flatK encI 4 l.toArray)[j]! = _ from h2];rfl
theorem rep_items{w:World}{b o:Nat}{l:List ItemD}(S:Nat→Prop)(h:HoldsK encI 4 w b o l.toArray):RepRows w S .own 4 (l.map itemR) b o (fun _=>False) :=
 vals_rows _ o (items_scal l) (items_len l) fun j c hj=>by
  obtain⟨h1,h2⟩:=flatK_get itemR (k:=4) (by decide) (fun _=>rfl) l j c hj
  rw [(h j h1).1,show (flatK encI 4 l.toArray)[j]! = _ from h2];rfl
theorem heap_sort(w:World)(b o n:Nat)(d:Array ItemD)(os:Array Obj)(x:Nat)(hx:x<w.heap.size):(sortWorldK encI 4 w b o n d os).heap[x]?=if b=x then (w.heap[x]?).map (Sort.onCells (Sort.putCells id o (flatK encI 4 d))) else w.heap[x]?:=by
 show ((w.heap.modify b (Sort.onCells (Sort.putCells id o (flatK encI 4 d))))++os)[x]?=_
 rw [Array.getElem?_append_left (by simpa using hx),Array.getElem?_modify]
theorem r_gslices_SortFunc_Item_ibyPath{a0:List ItemD}{r:(List ItemD)}(h:gslices_SortFunc_Item_ibyPath a0=some r)(hv0:Value):RetM pg 152 [hv0] [.rf ⟨.gl 0,[],0⟩ 4 none,.fn 153 []] [.sl .own 4 (rows itemR a0)] (.tu []) [.sl .own 4 (rows itemR r)]:=by
 unfold gslices_SortFunc_Item_ibyPath at h
 split at h
 case isFalse=>cases h
 rename_i hl
 obtain rfl:=Option.some.inj h
 refine ⟨⟨_,pg_func Tryz.func152,rfl,rfl⟩,rfl,⟨⟨rfl,own_itemS _⟩,trivial⟩,rfl,fun w Sh H us h1 h2 h3 h4=>?_⟩
 obtain⟨v,u,T1,T2,rfl,q1,q2⟩:=repTs_two h3
 simp only [RepT] at q1 q2
 obtain⟨s,s',hv,e1,e2,e3,e4⟩:=q1
 obtain⟨vs,rfl,hvs⟩:=q2
 obtain rfl:vs=[]:=by
  cases vs with
  | nil=>rfl
  | cons _ _=>simp only [RepTs] at hvs
 obtain rfl:Sr.val hv0=s:=by simpa [rg] using e1
 obtain rfl:Sr.val hv0=s':=by simpa [res] using e2
 obtain rfl:hv0=hv:=by simpa [Sr.cell] using e3
 obtain rfl:v=hv0:=by have h:=e4;simp only [subV] at h;exact h.1
 have hperm:=(sortI_eq a0).1.length_eq
 have hret:∀W:World,RepT W (fun _=>False) (fun _=>none) (.tu []) (.tuple #[]) (fun _=>False):=fun W=>by
  simp only [RepT];exact ⟨[],rfl,by simp only [RepTs]⟩
 rw [pg_eq]
 have h4':RepT w Sh (fun _=>none) (.sl .own 4 (rows itemR a0)) v H:=by
  simp only [RepTs] at h4
  obtain⟨A,B,k1,_,k2,_⟩:=h4
  exact RepT.mono _ _ _ _ (fun b hb=>(k2 b hb).1) k1
 have none0:∀al,v=.slice al 0 0→rows itemR a0=[]→Calls Tryz.prog 152 [v,.func (.func 153) #[] ([]:List Value).toArray].toArray w (PostM w Sh H (.tu []) [v] [.sl .own 4 (rows itemR (sortI a0))]):=fun al e e0=>by
  have e0':a0=[]:=(rows_nil_iff _ _).1 e0
  subst e0' e
  have es:sortI []=[]:=List.eq_nil_of_length_eq_zero (by simpa using hperm.symm)
  rw [es]
  refine (AnyF.slices_SortFunc_none lays_sort al 0 _ w).mono fun e w' ⟨he,hw⟩=>?_
  subst hw
  exact ⟨_,Sh,fun _=>False,he,hret _,fun S _=>by
   simp only [RepTs]
   exact ⟨fun _=>False,fun _=>False,by simp only [RepT,RepC];exact .inl ⟨⟨al,rfl⟩,rows_nil _⟩,trivial,fun _ h=>h.elim,fun _ h=>h⟩,fun b hb=>hb,fun b hb=>⟨h1 b hb,.inl hb⟩,fun b hb=>hb.elim,fun b _ _=>rfl,Nat.le_refl _,rfl,rfl,rfl⟩
 simp only [RepT,RepC] at h4'
 rcases h4' with ⟨⟨al,e⟩,e0⟩ | ⟨b,o,c,rfl,g1,g2,q1⟩
 ·exact none0 al e e0
 have q1:H b∧¬Sh b∧BlockOk w b o (c*4)∧RepRows w Sh Fl.own 4 (rows itemR a0) b o (fun x=>H x∧x≠b):=by
  rcases q1 with ⟨hm,_⟩ | ⟨hm,_⟩ | ⟨_,q⟩
  ·cases hm
  ·cases hm
  ·exact q
 obtain⟨k1,k2,k3,k4⟩:=q1
 have el:(rows itemR a0).length=a0.length:=by rw [rows_eq,List.length_map]
 rw [el] at g1 ⊢
 rw [rows_eq] at k4
 have hH:=holds_items k4 k3 g1
 have hbs:=h2 b k1
 have eg:∀args w,(callFunc 153 args).run Tryz.prog w=.ok (.enter 153 args) w:=enters_of Tryz.func153 (by kernel_rfl) rfl
 have hcon:=AnyQ.slices_SortFunc_eq lays_sort 4 Tryz.isAgg29 Tryz.sizeOf29 encI (fun _=>rfl) (fun x v hv=>by rw [encI_eq] at hv;simp at hv;rcases hv with rfl | rfl | rfl | rfl <;> rfl) cfI ltI_swo 153 #[] b o c a0.toArray w eg (fun _ _ _ _ x y=>calls_byPath x y _) hH hbs (by simpa using hl)
 refine hcon.mono fun e w' ⟨he,n,os,hw⟩=>?_
 have hd:(Sort.pdq (ltOf cfI) a0.toArray 0 a0.toArray.size (Lib.bitLen a0.toArray.size) true true)=(sortI a0).toArray:=by simp [sortI];rfl
 rw [hd] at hw
 have hH':HoldsK encI 4 w' b o (sortI a0).toArray:=by rw [hw];exact holdsK_sortWorldK encI 4 w b o n a0.toArray _ os hbs hH (by simpa using hperm.symm)
 have hsz:w.heap.size≤w'.heap.size:=by rw [hw];show w.heap.size≤((w.heap.modify b _)++os).size;simp
 have hfr:∀x,x<w.heap.size→¬x=b→w'.heap[x]?=w.heap[x]?:=fun x hx hn=>by rw [hw,heap_sort _ _ _ _ _ _ _ hx,if_neg (fun e=>hn e.symm)]
 have hbk:BlockOk w' b o (c*4):=by
  obtain⟨cur,el,fz,p1,p2,p3⟩:=k3
  refine ⟨Sort.putCells id o (flatK encI 4 (sortI a0).toArray) cur,el,fz,by rw [hw,heap_sort _ _ _ _ _ _ _ hbs,if_pos rfl,p1];rfl,?_,?_⟩
  ·unfold Sort.putCells;simpa using p2
  ·unfold Sort.putCells;simpa using p3
 refine ⟨_,Sh,fun x=>x=b,he,hret _,fun S hS=>?_,fun x hx=>hx,fun x hx=>⟨Nat.lt_of_lt_of_le (h1 x hx) hsz,.inl hx⟩,fun x hx=>by subst hx;exact ⟨Nat.lt_of_lt_of_le hbs hsz,.inr k1⟩,fun x hx hn=>hfr x hx fun e=>hn (e▸k1),hsz,by rw [hw];rfl,by rw [hw];rfl,by rw [hw];rfl⟩
 simp only [RepTs]
 refine ⟨fun x=>x=b,fun _=>False,?_,trivial,fun x hx=>⟨hx,fun h=>h⟩,fun x hx=>hx.elim⟩
 simp only [RepT,RepC]
 have er:(rows itemR (sortI a0)).length=a0.length:=by rw [rows_eq,List.length_map,hperm]
 refine .inr ⟨b,o,c,by rw [er],by rw [er];exact g1,g2,.inr (.inr ⟨rfl,rfl,fun hs=>k2 (hS b hs),hbk,?_⟩)⟩
 rw [rows_eq]
 exact RepRows.mono _ _ _ _ _ _ (fun x hx=>hx.elim) (rep_items S hH')
instance k_gslices_SortFunc_Item_ibyPath {a0:List ItemD}:Km (gslices_SortFunc_Item_ibyPath a0) fun r hv0=>RetM pg 152 [hv0] [.rf ⟨.gl 0,[],0⟩ 4 none,.fn 153 []] [.sl .own 4 (rows itemR a0)] (.tu []) [.sl .own 4 (rows itemR r)]:=⟨r_gslices_SortFunc_Item_ibyPath⟩
end Go.Ar
end
