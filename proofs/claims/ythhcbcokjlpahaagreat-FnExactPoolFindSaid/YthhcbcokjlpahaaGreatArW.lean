import Derived.Test.YthhcbcokjlpahaaGreatArU
import Derived.WalkKit
import Derived.ProofKit
import Derived.OpenShut
import Derived.ShutString
import Derived.ChangeOld
import Derived.Below
import Derived.Carry
import Derived.SizedLaws
import Derived.WideShapes
namespace Go.Ar
open Go.Proofs Go.ChangeShapes Go.WideShapes Go.ChangeAt Go.RowKit
set_option linter.unusedVariables false
set_option linter.unusedSimpArgs false
/-! What came in, as values. -/
def Cs(w:World):List V→List Value→Prop
 | [],[]=>True
 | c::cs,v::vs=>RepC w (fun b=>b<w.heap.size) .own c v (fun _=>False)∧Cs w cs vs
 | _,_=>False
theorem Cs.app{w:World}:∀ (r r':List V) (vs vs':List Value),Cs w r vs→Cs w r' vs'→Cs w (r++r') (vs++vs')
 | [],r',[],vs',_,h=>h
 | c::cs,r',v::vs,vs',h,h'=>⟨h.1,Cs.app cs r' vs vs' h.2 h'⟩
 | [],_,_::_,_,h,_=>h.elim
 | _::_,_,[],_,h,_=>h.elim
theorem Cs.len{w:World}:∀ (r:List V) (vs:List Value),Cs w r vs→r.length=vs.length
 | [],[],_=>rfl
 | c::cs,v::vs,h=>by simp [Cs.len cs vs h.2]
 | [],_::_,h=>h.elim
 | _::_,[],h=>h.elim
theorem RepC.toT{w:World}{Sh:Nat→Prop}{ρ:Rt→Option Sr}:∀ (c:V) (v:Value),RepC w Sh .own c v (fun _=>False)→RepT w Sh ρ c v (fun _=>False)
 | .b _,_,h | .i _ _,_,h | .cv _ _,_,h | .s _,_,h | .nil,_,h | .sl _ _ _,_,h=>by simp only [RepT];first | exact h | (simp only [RepC] at h;exact h)
 | .un,_,_=>by simp only [RepT]
 | .ag _,_,h | .tu _,_,h | .rf _ _ _,_,h | .pt _,_,h | .fn _ _,_,h=>by simp only [RepC] at h
theorem Cs.toT{w:World}{ρ:Rt→Option Sr}:∀ (r:List V) (vs:List Value),Cs w r vs→RepTs w (fun b=>b<w.heap.size) ρ r vs (fun _=>False)
 | [],[],_=>by simp only [RepTs]
 | c::cs,v::vs,h=>by
  simp only [RepTs]
  exact ⟨_,_,RepC.toT c v h.1,Cs.toT cs vs h.2,fun _ h=>h.elim,fun _ h=>h.elim⟩
 | [],_::_,h=>h.elim
 | _::_,[],h=>h.elim
/-- The arguments, each as it is handed. -/
def As(w:World)(ρ:Rt→Option Sr):List V→List Value→Prop
 | [],[]=>True
 | c::cs,v::vs=>RepT w (fun b=>b<w.heap.size) ρ c v (fun _=>False)∧As w ρ cs vs
 | _,_=>False
theorem As.rep{w:World}{ρ:Rt→Option Sr}:∀ (r:List V) (vs:List Value),As w ρ r vs→RepTs w (fun b=>b<w.heap.size) ρ r vs (fun _=>False)
 | [],[],_=>by simp only [RepTs]
 | c::cs,v::vs,h=>by
  simp only [RepTs]
  exact ⟨_,_,h.1,As.rep cs vs h.2,fun _ h=>h.elim,fun _ h=>h.elim⟩
 | [],_::_,h=>h.elim
 | _::_,[],h=>h.elim
structure Opn (P:Program) (t:Nat) {α:Type} (f:α→List V) (inv:α→Prop):Prop where
 op:∀ {H:Type} (enc:TypeId × Value→H) (w:World) (n:Nat) (cs:List Value) (x:DataW H × List MemPlace),DataW.trod enc P w 0 (fun _=>true) true n t cs=some x→∃a,inv a∧Cs w (f a) cs
theorem opn_int{P:Program}{t:Nat}{k:IntKind}(ht:P.underlying t=some (.int k)):Opn P t (fun n:Int=>[.i k n]) (fun n=>(Lit.int k n).wf=true):=⟨fun enc w n cs x h=>by
 obtain⟨m,rfl,_,hw⟩:=DataW.trod_int ht h
 exact ⟨m,hw,by simp only [Cs,RepC,and_true]⟩⟩
theorem opn_bool{P:Program}{t:Nat}(ht:P.underlying t=some .bool):Opn P t (fun b:Bool=>[.b b]) (fun _=>True):=⟨fun enc w n cs x h=>by
 obtain⟨m,rfl,_⟩:=DataW.trod_bool ht h
 exact ⟨m,trivial,by simp only [Cs,RepC,and_true]⟩⟩
theorem opn_str{P:Program}{t:Nat}(ht:P.underlying t=some .string):Opn P t (fun l:List UInt8=>[.s l]) (fun l=>l.length≤maxLen):=⟨fun enc w n cs x h=>by
 obtain⟨m,rfl,_,hs⟩:=DataW.trod_string ht h
 exact ⟨m.data.toList,by simpa using hs,by simp only [Cs,RepC,and_true]⟩⟩
/-- Fields from cell o on. -/
def OpnL(P:Program)(fs:List Field)(o:Nat){α:Type}(f:α→List V)(inv:α→Prop):Prop :=
 ∀ {H:Type} (enc:TypeId × Value→H) (w:World) (n:Nat) (cs:List Value) (xs:List (DataW H × List MemPlace)),
  (∀ (i:Nat) (g:Field),fs[i]?=some g→∃x,DataW.trod enc P w 0 (fun _=>true) true n g.type ((cs.drop g.offset).take (P.cellsOf g.type))=some x)→cs.length=o+(fs.map fun g=>P.cellsOf g.type).sum →
  ∃a,inv a∧Cs w (f a) (cs.drop o)
theorem opnL_nil{P:Program}{o:Nat}:OpnL P [] o (fun _:Unit=>[]) (fun _=>True):=fun enc w n cs xs h hl=>by
 refine ⟨(),trivial,?_⟩
 rw [List.drop_of_length_le (by simp at hl;omega)]
 trivial
theorem opnL_cons{P:Program}{g:Field}{fs:List Field}{o:Nat}{α β:Type}{f1:α→List V}{i1:α→Prop}{f2:β→List V}{i2:β→Prop}
  (h1:Opn P g.type f1 i1) (ho:g.offset=o) (h2:OpnL P fs (o+P.cellsOf g.type) f2 i2):OpnL P (g::fs) o (fun x:α × β=>f1 x.1++f2 x.2) (fun x=>i1 x.1∧i2 x.2):=fun enc w n cs xs h hl=>by
 obtain⟨x,hx⟩:=h 0 g rfl
 obtain⟨a,ia,ca⟩:=h1.op enc w n _ x hx
 obtain⟨b,ib,cb⟩:=h2 enc w n cs xs (fun i g' hg=>h (i+1) g' hg) (by simp only [List.map_cons,List.sum_cons] at hl;omega)
 refine ⟨(a,b),⟨ia,ib⟩,?_⟩
 rw [ho] at ca
 have:=Cs.app _ _ _ _ ca cb
 rwa [←List.drop_drop,List.take_append_drop] at this
theorem opn_struct{P:Program}{t:Nat}{fs:Array Field}{α:Type}{f:α→List V}{inv:α→Prop}(ht:P.underlying t=some (.struct fs))(hc:P.cellsOf t=(fs.toList.map fun g=>P.cellsOf g.type).sum)(h:OpnL P fs.toList 0 f inv):Opn P t f inv:=⟨fun enc w n cs x hx=>by
 obtain⟨xs,m,rfl,_,hl,hxl,he⟩:=DataW.trod_struct ht hx
 obtain⟨a,ia,ca⟩:=h enc w m cs xs (fun i g hg=>by
  have hg':fs[i]?=some g:=by simpa using hg
  rw [he i g hg']
  have:i<xs.length:=by rw [hxl];exact (Array.getElem?_eq_some_iff.1 hg').1
  exact ⟨_,List.getElem?_eq_getElem this⟩) (by rw [hl,hc];omega)
 exact ⟨a,ia,by simpa using ca⟩⟩
theorem Opn.as{P:Program}{t:Nat}{α β:Type}{f:α→List V}{inv:α→Prop}{g:β→List V}{inv':β→Prop}(h:Opn P t f inv)(k:α→β)(hf:∀a,f a=g (k a))(hi:∀a,inv a→inv' (k a)):Opn P t g inv' :=
 ⟨fun enc w n cs x hx=>by obtain⟨a,ia,ca⟩:=h.op enc w n cs x hx;exact ⟨k a,hi a ia,by rw [←hf];exact ca⟩⟩
/-! The claim's last step. -/
theorem args_again{H:Type}{enc:TypeId × Value→H}{P:Program}(hl:laidOutB P=true){W W':World}(bel:Below W.heap.size W W'):∀ (ts:List TypeId) (vs:List Value) (ds:List (DataW H)) (p:List MemPlace),(∀t∈ts,P.readableRec t=true∧t<P.types.size) →
  DataW.TrodAll enc P W 0 (fun _=>true) true ts vs ds p→(∀x∈p,x.block<W.heap.size)→DataW.TrodAll enc P W' 0 (fun b=>decide (b<W.heap.size)) true ts vs ds p:=by
 intro ts
 induction ts with
 | nil =>
  intro vs ds p hps hA hlt
  obtain⟨rfl,rfl,rfl⟩:=trodAll_nil hA;exact trodAll_mk0
 | cons t ts ih =>
  intro vs ds p hps hA hlt
  obtain⟨v,vs',d,ds',p0,q0,rfl,rfl,rfl,h0,h1⟩:=trodAll_cons hA
  exact trodAll_cons_mk (RowKit.Below.trod hl (hps t (by simp)).1 (hps t (by simp)).2 h0 bel (fun x hx=>hlt x (List.mem_append_left _ hx)))
   (ih _ _ _ (fun t' ht'=>hps t' (by simp [ht'])) h1 (fun x hx=>hlt x (List.mem_append_right _ hx)))
theorem post_true{H:Type}{enc:TypeId × Value→H}{P:Program}(hl:laidOutB P=true){fn:Func}{s:ChangeSpec}(hv:s.vars=[])(hps:∀t∈fn.params.toList,P.readableRec t=true∧t<P.types.size)
  {tb:Nat} (hr:fn.resultTypes = #[tb]) (hb:P.underlying tb=some .bool) {W W':World} {args:Array Value} {ds gs:List (DataW H)} {before:List MemPlace}
  (hW:DataW.Whole enc P fn.params.toList s.vars false W args.toList ds gs before) (bel:Below W.heap.size W W')
  (hs:s.fn H (ds++gs)={ results:=[.lit (.bool true)],args:=ds }):s.post enc P fn false true false false W args (.bool true) W':=by
 have hlt:=hW.lt
 have hW0:=hW
 obtain⟨p,q,hA,hV,rfl,hfz,hnd⟩:=hW
 rw [hv] at hV
 obtain⟨rfl,rfl⟩:=trodVars_none hV
 have hargs:DataW.TrodAll enc P W' 0 (fun b=>decide (b<W.heap.size)) true fn.params.toList args.toList ds p:=by
  exact args_again hl bel _ _ _ _ hps hA (fun x hx=>hlt x (List.mem_append_left _ hx))
 refine ⟨ds,[],_,[],p,[],hW0,?_,?_,?_,bel.frame _,fun h=>by cases h⟩
 ·rw [hs,hr]
  exact trodAll_mk1 (shut_bool hb true)
 ·rw [hs];exact hargs
 ·rw [hs,hv];rfl
/-- An argument of one cell; a struct. -/
theorem Opn.one{P:Program}{t:Nat}{α:Type}{f:α→List V}{inv:α→Prop}(h:Opn P t f inv){c:α→V}(hf:∀a,f a=[c a]){H:Type}{enc:TypeId × Value→H}{w:World}{v:Value}{d:DataW H}{ps:List MemPlace}
  (hk:∀cs,v≠.agg cs) (hd:DataW.Trod enc P w 0 (fun _=>true) true t v d ps) (ρ:Rt→Option Sr):∃a,inv a∧RepT w (fun b=>b<w.heap.size) ρ (c a) v (fun _=>False):=by
 obtain⟨n,hx⟩:=hd
 obtain⟨a,ia,ca⟩:=h.op enc w n _ _ hx
 rw [hf] at ca
 have:v.cells.toList=[v]:=by
  cases v <;> first | rfl | exact absurd rfl (hk _)
 rw [this] at ca
 exact ⟨a,ia,RepC.toT _ _ ca.1⟩
theorem Opn.struct{P:Program}{t:Nat}{fs:Array Field}(ht:P.underlying t=some (.struct fs)){α:Type}{f:α→List V}{inv:α→Prop}(h:Opn P t f inv){H:Type}{enc:TypeId × Value→H}{w w':World}{r:Reach}{b0:Nat}{v:Value}{d:DataW H}{ps:List MemPlace}
  (hval:Value.okWide P w' r b0 t v) (hd:DataW.Trod enc P w 0 (fun _=>true) true t v d ps) (ρ:Rt→Option Sr):∃a,inv a∧RepT w (fun b=>b<w.heap.size) ρ (.ag (f a)) v (fun _=>False):=by
 obtain⟨n,hx⟩:=hd
 obtain⟨cs,rfl,_⟩:=okWide_struct ht hval
 obtain⟨a,ia,ca⟩:=h.op enc w n _ _ hx
 refine ⟨a,ia,?_⟩
 simp only [RepT]
 exact ⟨cs.toList,by simp,Cs.toT _ _ ca⟩
/-- What a law's own contract comes to. -/
theorem true_of_ret{P:Program}{f:Nat}{vs:List V}(h:Ret P f true vs [] (.b true)){W:World}{args:Array Value}(ha:As W (fun _=>none) vs args.toList) :
  Calls P f args W (fun e W'=>e=.returned (.bool true)∧Below W.heap.size W W'):=by
 have:=h.2 W (fun b=>b<W.heap.size) (fun _=>False) [] args.toList (fun _ h=>h) (fun _ h=>h.elim) (RepTs.rmono (fun r s h=>by cases h) _ _ _ (As.rep _ _ ha)) (fun k row hk=>by cases hk)
 rw [Array.toArray_toList] at this
 refine Calls.mono this fun e w' hp=>?_
 obtain⟨v,Sh',T',rfl,hv,hw⟩:=hp
 have hv':=hv _ (fun _ h=>h)
 simp only [RepT] at hv'
 exact ⟨by rw [hv'],hw.os,hw.tape,hw.output,hw.sz,fun k hk=>hw.fr k hk (fun h=>h)⟩
end Go.Ar
