import Derived.Test.YthhcbcokjlpahaaGreatArJ
namespace Go.Ar
set_option linter.unusedVariables false
set_option linter.unusedSimpArgs false
/-! ### Conversions -/
/-- The bytes of the rows of a []byte. -/
def unbF(xs:List (List V)):List UInt8:=xs.map fun r=>match r with | [.i .u8 n]=>UInt8.ofNat n.toNat | _=>0
noncomputable def unb:List (List V)→List UInt8:=Classical.choose (kp unbF)
theorem unb_eq(xs:List (List V)):unb xs=unbF xs:=by unfold unb;rw [Classical.choose_spec (kp unbF)]
noncomputable def IsB:List (List V)→Prop:=Classical.choose (kp fun(xs:List (List V))=>∃l:List UInt8,xs=l.map fun b=>[V.i .u8 b.toNat])
theorem IsB_eq(xs:List (List V)):IsB xs = ∃l:List UInt8,xs=l.map fun b=>[V.i .u8 b.toNat]:=by
 unfold IsB;rw [Classical.choose_spec (kp fun(xs:List (List V))=>∃l:List UInt8,xs=l.map fun b=>[V.i .u8 b.toNat])]
theorem unb_bys(l:List UInt8):unb (l.map fun b=>[V.i .u8 b.toNat])=l:=by
 rw [unb_eq,unbF,List.map_map]
 conv=>rhs;rw [←List.map_id l]
 apply List.map_congr_left
 intro b _
 simp
theorem bys_flatten(l:List UInt8):(l.map fun b=>[V.i .u8 (b.toNat:Int)]).flatten=l.map fun b=>V.i .u8 (b.toNat:Int):=by
 induction l with
 | nil=>rfl
 | cons b l ih=>simp [ih]
theorem bys_cs{w:World}{Sh:Nat→Prop}:∀ (l:List UInt8),RepCs w Sh (l.map fun b=>V.i .u8 (b.toNat:Int)) (l.map fun b=>Value.int .u8 (b.toNat:Int)) (fun _=>False)
 | []=>trivial
 | b::l=>⟨fun _=>False,fun _=>False,rfl,bys_cs l,fun _ h=>h.elim,fun _ h=>h⟩
theorem bys_cells{w:World}{Sh:Nat→Prop}{md:Fl}{b z:Nat}:∀ (l:List UInt8) (o:Nat) (T:Nat→Prop),RepRows w Sh md z (l.map fun b=>[V.i .u8 (b.toNat:Int)]) b o T→∀j (hj:j<l.length),w.cell? ⟨b,o+j,none⟩=some (.int .u8 (l[j].toNat:Int))
 | [],_,_,_,j,hj=>by simp at hj
 | u::l,o,T,h,j,hj=>by
  simp only [List.map_cons,RepRows] at h
  obtain⟨hz,T1,T2,h1,h2,_,_⟩:=h
  have hz:z=1:=by simpa using hz.symm
  subst hz
  cases j with
  | zero =>
   simp only [RepRow] at h1
   obtain⟨v,S1,S2,k1,k2,_⟩:=h1
   have k2:v=.int .u8 (u.toNat:Int):=k2
   rw [k2] at k1
   exact k1
  | succ j =>
   have:=bys_cells l (o+1) T2 h2 j (by simpa using hj)
   rw [show o+1+j=o+(j+1) by omega] at this
   simpa using this
/-- The rows of a value that is a slice, with what lies behind it. -/
theorem slK_sound2{E:Env}{c:Cx}{st:St}{a:Act}{w:World}{G:Gh}(h:Rel c st a w G)(hfit:Fit E c){x:V}{v:Value}{T0:Nat→Prop}{K:List (List V)→Prop}
  (hv:RepT w G.Sh (Ar.rho c G) x v T0) (hk:slK E st x K):∃ (md f:Fl) (z:Nat) (xs:List (List V)) (T:Nat→Prop),K xs∧RepC w G.Sh md (.sl f z xs) v T:=by
 unfold slK at hk
 split at hk
 ·have:v=.slice none 0 0:=hv
  exact ⟨.own,.own,0,[],fun _=>False,hk,.inl ⟨⟨none,this⟩,rfl⟩⟩
 ·rename_i f z xs
  exact ⟨.own,f,z,xs,T0,hk,hv⟩
 ·rename_i p z u
  obtain⟨md,f,xs,T,h1,h2,hTB⟩:=dfA_sound h hfit hv hk
  exact ⟨md,f,z,xs,T,h1,h2⟩
 ·exact hk.elim
section ops
variable {E:Env} {c:Cx} {o:Oper}
noncomputable def cvA(E:Env)(st:St)(src dst:Nat)(x:V)(K:V→Prop):Prop :=
 match (E.ti src).k,(E.ti dst).k with
 | .int _,.int k=>(match x with | .i _ n=>K (.i k (wrp k n)) | _=>False)
 | .str,.str=>(match x with | .s l=>K (.s l) | _=>False)
 | .slice e,.str=>(match (E.ti e).k with | .int .u8=>slK E st x fun xs=>IsB xs∧K (.s (unb xs)) | _=>False)
 | .str,.slice e=>(match (E.ti e).k,x with | .int .u8,.s l=>Room (slen l) 1∧K (.sl .own 1 (bys l)) | _,_=>False)
 | _,_=>False
theorem convert_sound(hE:EnvOk E)(hfit:Fit E c){src dst:Nat}{x:Operand}(ho:o.op=.convert src dst x):OpQ E c o fun st K=>cvA E st src dst (ev st x) K:=by
 intro st a w G K N Q h hk hN
 obtain⟨T,hx⟩:=h.ev x
 unfold cvA at hk
 split at hk
 ·rename_i k1 k hs hd
  have hus:=(hE src (by rw [hs];rfl)).und
  rw [hs] at hus
  have hus:E.P.underlying src=some (.int k1):=hus
  have hud:=(hE dst (by rw [hd];rfl)).und
  rw [hd] at hud
  have hud:E.P.underlying dst=some (.int k):=hud
  split at hk
  ·rename_i k2 n hg
   rw [hg] at hx
   have hx:a.eval x=.int k2 n:=hx
   rw [wrp_eq] at hk
   have hG:=h.rep0 (v:=.i k (k.wrap n)) (u:=.int k (k.wrap n)) rfl
   exact wp_value (v:=.int k (k.wrap n)) (w':=w) (by simp [execOp,ho,hx,convert,run_underlying hus,run_underlying hud,Conv.intToInt]) (hN _ _ _ _ hk (RowKit.Below.refl _ _) hG noneT)
  ·exact hk.elim
 ·rename_i hs hd
  have hus:=(hE src (by rw [hs];rfl)).und
  rw [hs] at hus
  have hus:E.P.underlying src=some .string:=hus
  have hud:=(hE dst (by rw [hd];rfl)).und
  rw [hd] at hud
  have hud:E.P.underlying dst=some .string:=hud
  split at hk
  ·rename_i l hg
   rw [hg] at hx
   have hx:a.eval x=.string ⟨l.toArray⟩:=hx
   have hG:=h.rep0 (v:=.s l) (u:=.string ⟨l.toArray⟩) rfl
   exact wp_value (v:=.string ⟨l.toArray⟩) (w':=w) (by simp [execOp,ho,hx,convert,run_underlying hus,run_underlying hud]) (hN _ _ _ _ hk (RowKit.Below.refl _ _) hG noneT)
  ·exact hk.elim
 ·rename_i e hs hd
  have hus:=(hE src (by rw [hs];rfl)).und
  rw [hs] at hus
  have hus:E.P.underlying src=some (.slice e):=hus
  have hud:=(hE dst (by rw [hd];rfl)).und
  rw [hd] at hud
  have hud:E.P.underlying dst=some .string:=hud
  split at hk
  ·rename_i he
   have hue:=(hE e (by rw [he];rfl)).und
   rw [he] at hue
   have hue:E.P.underlying e=some (.int .u8):=hue
   obtain⟨md,f,z,xs,T',⟨k1,k2⟩,k3⟩:=slK_sound2 h hfit hx hk
   rw [IsB_eq] at k1
   obtain⟨l,rfl⟩:=k1
   rw [unb_bys] at k2
   have hG:=h.rep0 (v:=.s l) (u:=.string ⟨l.toArray⟩) rfl
   refine wp_value (v:=.string ⟨l.toArray⟩) (w':=w) ?_ (hN _ _ _ _ k2 (RowKit.Below.refl _ _) hG noneT)
   rcases k3.hdr with ⟨⟨al,hv⟩,hl⟩ | ⟨b,o',cc,hv,_,_,T3,hr⟩
   ·have hl:l=[]:=by simpa using hl
    subst hl
    cases al with
    | none =>
     simp [execOp,ho,hv,run_convert_bytes_string w src dst e none 0 0 hus hue hud,Conv.bytesToString,ByteArray.empty,ByteArray.emptyWithCapacity]
     rfl
    | some ad =>
     have:=run_convert_bytes_back (P:=E.P) w src dst e ad 0 [] hus hue hud (fun j hj=>by simp at hj)
     simp only [List.length_nil] at this
     simp [execOp,ho,hv,this]
   ·rw [List.length_map] at hv
    have:=run_convert_bytes_back (P:=E.P) w src dst e ⟨b,o',none⟩ cc l hus hue hud (fun j hj=>by rw [Addr.add_lit];exact bys_cells l o' _ hr j hj)
    simp [execOp,ho,hv,this]
  ·exact hk.elim
 ·rename_i e hs hd
  have hus:=(hE src (by rw [hs];rfl)).und
  rw [hs] at hus
  have hus:E.P.underlying src=some .string:=hus
  have hud:=(hE dst (by rw [hd];rfl)).und
  rw [hd] at hud
  have hud:E.P.underlying dst=some (.slice e):=hud
  split at hk
  ·rename_i l he hg
   rw [hg] at hx
   have hx:a.eval x=.string ⟨l.toArray⟩:=hx
   have hue:=(hE e (by rw [he];rfl)).und
   rw [he] at hue
   have hue:E.P.underlying e=some (.int .u8):=hue
   obtain⟨k1,k2⟩:=hk
   rw [Room_eq,slen_eq] at k1
   rw [bys_eq] at k2
   have hsz:(⟨l.toArray⟩:ByteArray).size=l.length:=by show l.toArray.size=_;simp
   have hrun:=run_bytes_of_string w src dst e ⟨l.toArray⟩ hus hud hue
   rw [hsz] at hrun
   have hle:l.length≤grownCap w l.length 0 e:=by unfold grownCap Question.cut;simp
   have hcz:(bytesRow ⟨l.toArray⟩ (grownCap w l.length 0 e)).size=grownCap w l.length 0 e:=by
    simp only [bytesRow,Array.size_append,Array.size_map,Array.size_replicate,hsz]
    show l.toArray.size+_=_
    simp;omega
   rw [hcz] at hrun
   have hm:grownCap w l.length 0 e≤maxLen:=grownCap_le_maxLen w _ _ _ (by simp only [maxLen];omega)
   have hrep:=fresh_row (w:=w) (w':=w.drew.alloc (.cells (bytesRow ⟨l.toArray⟩ (grownCap w l.length 0 e)) e (grownCap w l.length 0 e,grownCap w l.length 0 e+1))) (Sh:=G.Sh) (T:=fun _=>False) (rows:=l.map fun b=>[V.i .u8 b.toNat])
    (vals:=l.map fun b=>Value.int .u8 (b.toNat:Int)) (z:=1) (e:=e) (fz:=(grownCap w l.length 0 e,grownCap w l.length 0 e+1)) (cc:=grownCap w l.length 0 e)
    (fun b hb=>(h.sb b hb).1) (fun _ h=>h.elim) (by rw [bys_flatten];exact bys_cs l) (fun r hr=>by obtain⟨b,_,rfl⟩:=List.mem_map.1 hr;rfl) (alloc_at w.drew _) (.inr (by rw [hcz];exact Nat.le_refl _))
    (fun b hb=>alloc_heap_lt w.drew _ _ hb)
    (fun j v hj=>by
     have hjl:j<l.length:=by have:=(List.getElem?_eq_some_iff.1 hj).1;simpa using this
     unfold bytesRow
     rw [Array.getElem?_append_left (by simp;exact hjl)]
     simpa using hj)
    (by rw [hcz];omega) (by rw [List.length_map];exact hle) hm
   rw [List.length_map] at hrep
   have hbl:RowKit.Below w.heap.size w (w.drew.alloc (.cells (bytesRow ⟨l.toArray⟩ (grownCap w l.length 0 e)) e (grownCap w l.length 0 e,grownCap w l.length 0 e+1))):=((RowKit.Below.refl _ w).drew).alloc (Nat.le_refl _) _
   have hrep2:RepT (w.drew.alloc (.cells (bytesRow ⟨l.toArray⟩ (grownCap w l.length 0 e)) e (grownCap w l.length 0 e,grownCap w l.length 0 e+1))) G.Sh (Ar.rho c G) (.sl .own 1 (l.map fun b=>[V.i .u8 (b.toNat:Int)])) (.slice (some ⟨w.heap.size,0,none⟩) l.length (grownCap w l.length 0 e)) (fun b=>b=w.heap.size∨(fun _=>False) b):=hrep
   exact wp_value (by simp [execOp,ho,hx,hrun]) (hN _ _ _ _ k2 hbl hrep2 (freshT (by simp)))
  ·exact hk.elim
 ·exact hk.elim
/-! ### len, min, max -/
noncomputable def imax:Int→Int→Int:=Classical.choose (kp fun(a b:Int)=>max a b)
theorem imax_eq(a b:Int):imax a b=max a b:=by unfold imax;rw [Classical.choose_spec (kp fun(a b:Int)=>max a b)]
noncomputable def imin:Int→Int→Int:=Classical.choose (kp fun(a b:Int)=>min a b)
theorem imin_eq(a b:Int):imin a b=min a b:=by unfold imin;rw [Classical.choose_spec (kp fun(a b:Int)=>min a b)]
/-- What a builtin function yields that touches no memory. -/
noncomputable def buiA(E:Env)(st:St)(b:Builtin)(ts:List Nat)(args:List Operand)(K:V→Prop):Prop :=
 match b,ts,args with
 | .len,[t],[x] =>
  (match (E.ti t).k with
  | .str=>(match ev st x with | .s l=>K (.i .i64 (slen l)) | _=>False)
  | .slice _=>slK E st (ev st x) fun xs=>K (.i .i64 (llen xs))
  | _=>False)
 | .max,_,[x,y]=>(match ev st x,ev st y with | .i k n,.i _ m=>K (.i k (imax n m)) | _,_=>False)
 | .min,_,[x,y]=>(match ev st x,ev st y with | .i k n,.i _ m=>K (.i k (imin n m)) | _,_=>False)
 | _,_,_=>False
theorem builtin_sound(hE:EnvOk E)(hfit:Fit E c){b:Builtin}{args:Array Operand}{ts:Array TypeId}(ho:o.op=.call { callee:=.builtin b,args:=args,argTypes:=ts }):OpQ E c o fun st K=>buiA E st b ts.toList args.toList K:=by
 intro st a w G K N Q h hk hN
 unfold buiA at hk
 split at hk
 ·rename_i t x e1 e2
  obtain⟨T,hx⟩:=h.ev x
  have e1:ts = #[t]:=Array.ext' (by simpa using e1)
  have e2:args = #[x]:=Array.ext' (by simpa using e2)
  subst e1 e2
  split at hk
  ·rename_i hs
   have hus:=(hE t (by rw [hs];rfl)).und
   rw [hs] at hus
   have hus:E.P.underlying t=some .string:=hus
   split at hk
   ·rename_i l hg
    rw [hg] at hx
    have hx:a.eval x=.string ⟨l.toArray⟩:=hx
    rw [slen_eq] at hk
    have hsz:(⟨l.toArray⟩:ByteArray).size=l.length:=by show l.toArray.size=_;simp
    have hG:=h.rep0 (v:=.i .i64 (l.length:Int)) (u:=.int .i64 (l.length:Int)) rfl
    refine wp_value (v:=.int .i64 (l.length:Int)) (w':=w) ?_ (hN _ _ _ _ hk (RowKit.Below.refl _ _) hG noneT)
    simp [execOp,ho,resolve,invoke,builtin,Builtin.len_,hx,run_underlying hus,hsz,goInt]
   ·exact hk.elim
  ·rename_i e hs
   have hus:=(hE t (by rw [hs];rfl)).und
   rw [hs] at hus
   have hus:E.P.underlying t=some (.slice e):=hus
   obtain⟨xs,al,n,cc,k1,k2,k3,k4,k5⟩:=slK_sound h hfit hx hk
   rw [llen_eq,←k3] at k1
   have hG:=h.rep0 (v:=.i .i64 (n:Int)) (u:=.int .i64 (n:Int)) rfl
   refine wp_value (v:=.int .i64 (n:Int)) (w':=w) ?_ (hN _ _ _ _ k1 (RowKit.Below.refl _ _) hG noneT)
   simp [execOp,ho,resolve,invoke,builtin,Builtin.len_,k2,run_underlying hus,goInt]
  ·exact hk.elim
 ·rename_i x y e2
  have e2:args = #[x,y]:=Array.ext' (by simpa using e2)
  subst e2
  obtain⟨Tx,hx⟩:=h.ev x
  obtain⟨Ty,hy⟩:=h.ev y
  split at hk
  ·rename_i k n k' m g1 g2
   rw [g1] at hx
   rw [g2] at hy
   have hx:a.eval x=.int k n:=hx
   have hy:a.eval y=.int k' m:=hy
   rw [imax_eq] at hk
   have hG:=h.rep0 (v:=.i k (max n m)) (u:=.int k (max n m)) rfl
   refine wp_value (v:=.int k (max n m)) (w':=w) ?_ (hN _ _ _ _ hk (RowKit.Below.refl _ _) hG noneT)
   have:(if m > n then m else n)=max n m:=by omega
   simp [execOp,ho,resolve,invoke,builtin,Builtin.max_,Builtin.max2,hx,hy,this]
  ·exact hk.elim
 ·rename_i x y e2
  have e2:args = #[x,y]:=Array.ext' (by simpa using e2)
  subst e2
  obtain⟨Tx,hx⟩:=h.ev x
  obtain⟨Ty,hy⟩:=h.ev y
  split at hk
  ·rename_i k n k' m g1 g2
   rw [g1] at hx
   rw [g2] at hy
   have hx:a.eval x=.int k n:=hx
   have hy:a.eval y=.int k' m:=hy
   rw [imin_eq] at hk
   have hG:=h.rep0 (v:=.i k (min n m)) (u:=.int k (min n m)) rfl
   refine wp_value (v:=.int k (min n m)) (w':=w) ?_ (hN _ _ _ _ hk (RowKit.Below.refl _ _) hG noneT)
   have:(if m<n then m else n)=min n m:=by omega
   simp [execOp,ho,resolve,invoke,builtin,Builtin.min_,Builtin.min2,hx,hy,this]
  ·exact hk.elim
 ·exact hk.elim
end ops
end Go.Ar
