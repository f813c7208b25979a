import Derived.Test.YthhcbcokjlpahaaGreatArPG
namespace Go.Ar
set_option linter.unusedVariables false
/-! A fact on the temporaries that no operation of a region touches. -/
def QF(Fx:Act→Prop)(Q:Exit→Act→World→Prop):Exit→Act→World→Prop:=fun e a w=>match e with | .normal=>Fx a→Q .normal a w | e=>Q e a w
def KeepF(Fx:Act→Prop)(o:Oper):Prop := ∀ (a:Act) (d:List Deferred) (v:Value),Fx a→Fx ({ a with defers:=d }.put o.dst v)
theorem lets_fx{Fx:Act→Prop}{Q:Exit→Act→World→Prop}(h:LetsOut (QF Fx Q)):LetsOut Q:=h
theorem wp_fx{P:Program}{o:Oper}{a:Act}{w:World}{N:Act→World→Prop}{Q:Exit→Act→World→Prop}{Fx:Act→Prop}(hk:KeepF Fx o)(ha:Fx a)(h:o.wp P a w (fun a' w'=>Fx a'→N a' w') (QF Fx Q)):o.wp P a w N Q:=by
 have hf:∀d v,Fx ({ a with defers:=d }.put o.dst v):=fun d v=>hk a d v ha
 have hf0:∀v,Fx (a.put o.dst v):=fun v=>hf a.defers v
 unfold Oper.wp at h ⊢
 generalize (execOp a.eval o).run P w=r at h ⊢
 cases r with
 | ok n w' =>
  cases n with
  | value v=>exact h (hf0 v)
  | skip=>exact h (hf0 _)
  | defer d=>exact h (hf _ _)
  | enter f args =>
   rw [Oper.upon_enter] at h ⊢
   refine Calls.mono h fun e w'' he=>?_
   cases e with
   | returned v=>exact he (hf0 v)
   | panicked ch=>exact he
   | outgrown=>exact lets_fx he
  | row row args =>
   rw [Oper.upon_row] at h ⊢
   exact Rows.mono h fun v w'' hv=>hv (hf0 v)
  | _=>exact h
 | halt x w'=>cases x <;> exact h
theorem put_fx{Fx:Act→Prop}{o:Oper}(hk:KeepF Fx o){a:Act}(ha:Fx a)(v:Value):Fx (a.put o.dst v):=hk a a.defers v ha
theorem list_fx{P:Program}{ops:Array Oper}{Q:Exit→Act→World→Prop}{Fx:Act→Prop}:∀ (l:List Oper) (a:Act) (w:World),(∀o∈l,KeepF Fx o)→Fx a→wpList P ops (QF Fx Q) l a w→wpList P ops Q l a w
 | [],a,w,_,ha,h=>h ha
 | o::rest,a,w,hk,ha,h=>by
  unfold wpList at h ⊢
  split
  ·rename_i hw
   rw [if_pos hw] at h
   rcases h with h | ⟨h1,h2⟩
   ·exact .inl (wp_fx (hk o (by simp)) ha (Oper.wp_mono (fun a' w' h' ha'=>list_fx rest a' w' (fun o' ho'=>hk o' (by simp [ho'])) ha' h') h))
   ·exact .inr ⟨h1,lets_fx h2⟩
  ·rename_i hw
   rw [if_neg hw] at h
   exact list_fx rest _ _ (fun o' ho'=>hk o' (by simp [ho'])) (put_fx (hk o (by simp)) ha _) h
theorem op_fx{P:Program}{ops:Array Oper}{Q:Exit→Act→World→Prop}{Fx:Act→Prop}{i:Nat}{K:Act→World→Prop}{a:Act}{w:World}(hk:∀o,ops[i]?=some o→KeepF Fx o)(ha:Fx a)
  (h:wpOp P ops (QF Fx Q) i (fun a' w'=>Fx a'→K a' w') a w):wpOp P ops Q i K a w:=by
 unfold wpOp at h ⊢
 cases ho:ops[i]? with
 | none=>rw [ho] at h;exact h ha
 | some o =>
  rw [ho] at h
  simp only at h ⊢
  split
  ·rename_i hw
   rw [if_pos hw] at h
   rcases h with h | ⟨h1,h2⟩
   ·exact .inl (wp_fx (hk o ho) ha h)
   ·exact .inr ⟨h1,lets_fx h2⟩
  ·rename_i hw
   rw [if_neg hw] at h
   exact h (put_fx (hk o ho) ha _)
theorem any_fx{P:Program}{md:Region.Mode}{ops:Array Oper}{Q:Exit→Act→World→Prop}{Fx:Act→Prop}(hk:∀ (i:Nat) (o:Oper),ops[i]?=some o→KeepF Fx o):∀ (fuel:Nat) (listed:Array Bool) (a:Act) (w:World),Fx a →
  wpAny P md ops (QF Fx Q) fuel listed a w→wpAny P md ops Q fuel listed a w
 | 0,listed,a,w,ha,h=>⟨h.1,h.2 ha⟩
 | fuel+1,listed,a,w,ha,h=>by
  refine ⟨fun hr=>h.1 hr ha,fun i hi=>op_fx (hk i) ha ?_⟩
  have h2:=h.2 i hi
  unfold wpOp at h2 ⊢
  cases ho:ops[i]? with
  | none=>rw [ho] at h2;exact fun ha'=>any_fx hk fuel _ a w ha' h2
  | some o =>
   rw [ho] at h2
   simp only at h2 ⊢
   split
   ·rename_i hw
    rw [if_pos hw] at h2
    rcases h2 with h2 | h2
    ·exact .inl (Oper.wp_mono (fun a' w' h' ha'=>any_fx hk fuel _ a' w' ha' h') h2)
    ·exact .inr h2
   ·rename_i hw
    rw [if_neg hw] at h2
    exact fun ha'=>any_fx hk fuel _ _ w ha' h2
end Go.Ar
