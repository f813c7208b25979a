import Derived.Test.YthhcbcokjlpahaaGreatArDcC
import Derived.Test.YthhcbcokjlpahaaGreatArDcN
namespace Go.Ar
open Go.Proofs
set_option linter.unusedVariables false
set_option linter.unusedSimpArgs false
set_option maxRecDepth 20000
set_option maxHeartbeats 40000000
instance:OwnC nodeR:=⟨own_nodeS⟩
instance:OwnC fsR:=⟨own_fsS⟩
instance:OwnC branchR:=⟨own_branchS⟩
instance:OwnC moveR:=⟨own_moveS⟩
instance:OwnC poolR:=⟨own_poolS⟩
instance:OwnC stepR:=⟨own_stepS⟩
instance:OwnC opR:=⟨own_opS⟩
instance:OwnC itemR:=⟨own_itemS⟩
instance:OwnC treeR:=⟨own_treeS⟩
instance:OwnC entryR:=⟨own_entryS⟩
theorem NB:((∀f z,V.sl f z [[V.i .u8 0]]=V.sl f z (bys [0]))∧(∀l,sn (bys l) [V.i .u8 0]=bys (ap l [0])))∧((∀f z,V.sl f z [[V.i .u8 1]]=V.sl f z (bys [1]))∧(∀l,sn (bys l) [V.i .u8 1]=bys (ap l [1])))∧((∀f z,V.sl f z [[V.i .u8 2]]=V.sl f z (bys [2]))∧(∀l,sn (bys l) [V.i .u8 2]=bys (ap l [2])))∧((∀f z,V.sl f z [[V.i .u8 3]]=V.sl f z (bys [3]))∧(∀l,sn (bys l) [V.i .u8 3]=bys (ap l [3])))∧((∀f z,V.sl f z [[V.i .u8 4]]=V.sl f z (bys [4]))∧(∀l,sn (bys l) [V.i .u8 4]=bys (ap l [4])))∧((∀f z,V.sl f z [[V.i .u8 7]]=V.sl f z (bys [7]))∧(∀l,sn (bys l) [V.i .u8 7]=bys (ap l [7])))∧((∀f z,V.sl f z [[V.i .u8 47]]=V.sl f z (bys [47]))∧(∀l,sn (bys l) [V.i .u8 47]=bys (ap l [47])))∧((∀f z,V.sl f z [[V.i .u8 65]]=V.sl f z (bys [65]))∧(∀l,sn (bys l) [V.i .u8 65]=bys (ap l [65])))∧((∀f z,V.sl f z [[V.i .u8 66]]=V.sl f z (bys [66]))∧(∀l,sn (bys l) [V.i .u8 66]=bys (ap l [66])))∧((∀f z,V.sl f z [[V.i .u8 74]]=V.sl f z (bys [74]))∧(∀l,sn (bys l) [V.i .u8 74]=bys (ap l [74])))∧((∀f z,V.sl f z [[V.i .u8 78]]=V.sl f z (bys [78]))∧(∀l,sn (bys l) [V.i .u8 78]=bys (ap l [78])))∧((∀f z,V.sl f z [[V.i .u8 83]]=V.sl f z (bys [83]))∧(∀l,sn (bys l) [V.i .u8 83]=bys (ap l [83])))∧((∀f z,V.sl f z [[V.i .u8 126]]=V.sl f z (bys [126]))∧(∀l,sn (bys l) [V.i .u8 126]=bys (ap l [126])))∧((∀f z,V.sl f z [[V.i .u8 66],[V.i .u8 65],[V.i .u8 83],[V.i .u8 78]]=V.sl f z (bys [66,65,83,78]))∧(∀q,app [[V.i .u8 66],[V.i .u8 65],[V.i .u8 83],[V.i .u8 78]] q=app (bys [66,65,83,78]) q)) :=
 ⟨⟨fun _ _=>by rw [show [[V.i .u8 0]]=bys [0] from by rw [bys_eq];rfl],fun l=>sn_b l 0⟩,
  ⟨fun _ _=>by rw [show [[V.i .u8 1]]=bys [1] from by rw [bys_eq];rfl],fun l=>sn_b l 1⟩,
  ⟨fun _ _=>by rw [show [[V.i .u8 2]]=bys [2] from by rw [bys_eq];rfl],fun l=>sn_b l 2⟩,
  ⟨fun _ _=>by rw [show [[V.i .u8 3]]=bys [3] from by rw [bys_eq];rfl],fun l=>sn_b l 3⟩,
  ⟨fun _ _=>by rw [show [[V.i .u8 4]]=bys [4] from by rw [bys_eq];rfl],fun l=>sn_b l 4⟩,
  ⟨fun _ _=>by rw [show [[V.i .u8 7]]=bys [7] from by rw [bys_eq];rfl],fun l=>sn_b l 7⟩,
  ⟨fun _ _=>by rw [show [[V.i .u8 47]]=bys [47] from by rw [bys_eq];rfl],fun l=>sn_b l 47⟩,
  ⟨fun _ _=>by rw [show [[V.i .u8 65]]=bys [65] from by rw [bys_eq];rfl],fun l=>sn_b l 65⟩,
  ⟨fun _ _=>by rw [show [[V.i .u8 66]]=bys [66] from by rw [bys_eq];rfl],fun l=>sn_b l 66⟩,
  ⟨fun _ _=>by rw [show [[V.i .u8 74]]=bys [74] from by rw [bys_eq];rfl],fun l=>sn_b l 74⟩,
  ⟨fun _ _=>by rw [show [[V.i .u8 78]]=bys [78] from by rw [bys_eq];rfl],fun l=>sn_b l 78⟩,
  ⟨fun _ _=>by rw [show [[V.i .u8 83]]=bys [83] from by rw [bys_eq];rfl],fun l=>sn_b l 83⟩,
  ⟨fun _ _=>by rw [show [[V.i .u8 126]]=bys [126] from by rw [bys_eq];rfl],fun l=>sn_b l 126⟩,
  ⟨fun _ _=>by rw [show [[V.i .u8 66],[V.i .u8 65],[V.i .u8 83],[V.i .u8 78]]=bys [66,65,83,78] from by rw [bys_eq];rfl],fun q=>by rw [show [[V.i .u8 66],[V.i .u8 65],[V.i .u8 83],[V.i .u8 78]]=bys [66,65,83,78] from by rw [bys_eq];rfl]⟩⟩
theorem NA:type_of% (And.intro @F (And.intro @F2 (And.intro @N0 (And.intro @N_Byte (And.intro @NB (And.intro @N_Int (And.intro @N_String (And.intro @N_Bool (And.intro @N_Node (And.intro @N_Fs (And.intro @N_Branch (And.intro @N_Move (And.intro @N_Pool (And.intro @N_Step (And.intro @N_Op (And.intro @N_Item (And.intro @N_Tree @N_Entry))))))))))))))))):=⟨@F,@F2,@N0,@N_Byte,@NB,@N_Int,@N_String,@N_Bool,@N_Node,@N_Fs,@N_Branch,@N_Move,@N_Pool,@N_Step,@N_Op,@N_Item,@N_Tree,@N_Entry⟩
/-- The script of all printed functions. -/
theorem scr{P:Prop}(e:P:=by
 cbv
 try simp only [NA]
 repeat' (first
  | ((with_reducible refine A6 ?_);cbv;try simp only [NA])
  | ((with_reducible refine R6 ?_);cbv;try simp only [NA])
  | ((with_reducible refine GtI h ?_);clear h;intro y hy h)
  | ((with_reducible refine GtA h ?_);clear h;intro y hy h;cbv;try simp only [NA])
  | ((with_reducible refine GtB h ?_);clear h;intro y hy h;cbv;try simp only [NA])
  | ((with_reducible refine CkI h ?_);clear h;intro h)
  | (refine ⟨gt_in (by first | assumption | exact gt_sl (by assumption) | exact gt_sl (gt_sl (by assumption))),?_⟩)
  | (refine ⟨_,(by first | exact gt_at _ (by assumption) | exact gt_ab (by assumption) | exact gt_at _ (gt_sl (by assumption)) | exact gt_ab (gt_sl (by assumption)) | exact gt_at _ (gt_sl (gt_sl (by assumption)))),?_⟩;cbv;try simp only [NA])
  | (refine ⟨by first | (rw [icmp_neq];rfl) | (rw [icmp_geq];rfl),?_⟩)
  | ((with_reducible refine CondI h ?_ ?_) <;> clear h <;> intro q h <;> simp only [q] <;> cbv <;> try simp only [NA])
  | ((with_reducible refine CallO h ?_ ?_ ?_ ?_) <;> (first | rfl | (clear h;intro z h;cbv;try simp only [NA]) | (clear h;intro h;cbv;try simp only [NA])))
  | ((with_reducible refine CallB h ?_ ?_ ?_ ?_) <;> first | rfl | (clear h;intro z h;cbv;try simp only [NA]))
  | ((with_reducible refine CallC h ?_ ?_ ?_);(first | rfl | (simp only [Z0];rfl));rfl;clear h;intro z h;cbv;try simp only [NA])
  | ((with_reducible refine CallL h ?_ ?_ ?_);(repeat' (first | exact LeFs.n | refine LeFs.c ?_ ?_ | exact LeF.rfl' _ | exact LeF.nr _ _ _ | exact LeF.nb _ _));rfl;clear h;intro z h;cbv;try simp only [NA])
  | ((with_reducible refine CallM h ?_ ?_ ?_);(first | rfl | (simp only [Z0];rfl));(first | rfl | (simp only [Z0];rfl));clear h;intro z h;cbv;try simp only [NA])
  | ((with_reducible first | refine CutW h ?_ ?_ | refine CutV h ?_ ?_ | refine CutWG h ?_ ?_ | refine CutVG h ?_ ?_) <;> clear h <;> intro _ h <;> cbv <;> try simp only [NA])
  | ((with_reducible first | refine LoopW h ?_ ?_ | refine LoopWG h ?_ ?_);(first | rfl | (simp only [Z0];rfl));clear h;intro _ s h;cbv;try simp only [NA])
  | ((with_reducible refine NqI h ?_ ?_);(intro n hn e;have:=hn e;(first | exact this | simpa only [sub,rows_nil_iff,bys_nil_iff] using this));clear h;intro n h;cbv;try simp only [NA])
  | exact Yk.n h
  | ((with_reducible have h' := Yk.s h); first
      | exact ⟨_,h',rfl⟩
      | (refine ⟨_,h',?_⟩;simp only [Z0];rfl)
      | (obtain rfl : _ = r := h'; first
          | exact LeV.to rfl (LeF.rfl' _)
          | (simp only [Z0];exact LeV.to rfl (LeF.rfl' _))
          | (refine LeV.to rfl ?_;(repeat' (first | exact LeFs.n | refine LeFs.c ?_ ?_ | refine LeF.tu ?_ | exact LeF.rfl' _ | exact LeF.nr _ _ _ | exact LeF.nb _ _ | exact LeF.un _)))
          | (refine LeV.to rfl ?_;dsimp only [cond_true,cond_false];(repeat' (first | exact LeFs.n | refine LeFs.c ?_ ?_ | refine LeF.tu ?_ | exact LeF.rfl' _ | exact LeF.nr _ _ _ | exact LeF.nb _ _ | exact LeF.un _)))
          | exact ⟨LeV.to rfl (LeF.rfl' _),rfl⟩
          | (simp only [Z0];exact ⟨LeV.to rfl (LeF.rfl' _),rfl⟩)))
  | (refine ⟨by rw [OwnK_eq];(repeat' (first | trivial | exact OwnC.o _ | (with_reducible refine OwnV_cond ?_ ?_) | exact own_bysS _ | refine ⟨?_,?_⟩)),?_⟩;cbv;try simp only [NA])
  | (intro n hn gn;obtain rfl:n=true:=by (first | exact gn rfl | exact gn trivial | exact gn);clear hn gn;cbv;try simp only [NA])
  | (intro v;cbv;try simp only [NA]))):P:=e
theorem rD{f:Nat}{fn:Func}{cd:Code}{args:List V}{g:List (List V)}{β:Type}{x y:Option β}{rep:β→V}(C B:Nat)(tab:List (Nat × List PRow))(ct:CT)(hf:Tryz.prog.funcs[f]?=some fn)(hb:fn.body=some cd)(e:x=y)
  (hk:∀r,(Yk y fun o=>o=r)→awD (env (fun _=>false) []) C tab B cd ct (fun _ e st=>match e with | .exit _=>False | _=>valL (env (fun _=>false) []) st fn.results.toList fun vs _=>bif okA (outV vs) then LeV (outV vs) (rep r) else False) B
   { t:=args++List.replicate (fn.ntmps-args.length) (.tu []),m:=List.replicate fn.ntmps [],g:=g })
  (hd : okCd (env (fun _ => false) []) cd = true := by decide +kernel) (ht : okT (env (fun _ => false) []) tab cd = true := by decide +kernel) (hnm : (fn.name == "runtime.NumGoroutine") = false := by exact rfl)
  (ho:∀r,OwnV (rep r):=by intro r;repeat' (first | trivial | exact OwnC.o _ | (with_reducible refine OwnV_cond ?_ ?_) | exact own_bysS _ | refine ⟨?_,?_⟩ | cases r)):Kn x fun r=>Ret pg f true args g (rep r) :=
 ⟨fun {r} h=>retD C B tab ct hf hb hd ht hnm (ho r) (hk r (.i (e▸h)))⟩
theorem rDM{f:Nat}{fn:Func}{cd:Code}{args gs:List V}{β:Type}{reg:β→List V}{x y:Option β}{rep:β→V}(C B:Nat)(tab:List (Nat × List PRow))(ct:CT)(hf:Tryz.prog.funcs[f]?=some fn)(hb:fn.body=some cd)(e:x=y)
  (hk:∀r (v:Value),(Yk y fun o=>o=r)→awD (envM [v]) C tab B cd ct (fun _ e st=>match e with | .exit _=>False | _=>valL (envM [v]) st fn.results.toList fun vs st2=>bif okA (outV vs) then LeV (outV vs) (rep r)∧st2.g=gRows (reg r) else False) B
   { t:=args++List.replicate (fn.ntmps-args.length) (.tu []),m:=List.replicate fn.ntmps [],g:=gRows gs })
  (hd : okCd (env (fun _ => false) []) cd = true := by decide +kernel) (ht : okT (env (fun _ => false) []) tab cd = true := by decide +kernel) (hnm : (fn.name == "runtime.NumGoroutine") = false := by exact rfl)
  (hr:∀r,scalT (rep r)=true:=by intro r;rfl) (h1:OwnVs gs:=by repeat' (first | trivial | exact OwnC.o _ | (with_reducible refine OwnV_cond ?_ ?_) | exact own_bysS _ | refine ⟨?_,?_⟩)) (h1':allSl gs=true:=by exact rfl) (h2:∀r,OwnVs (reg r):=by intro r;repeat' (first | trivial | exact OwnC.o _ | (with_reducible refine OwnV_cond ?_ ?_) | exact own_bysS _ | refine ⟨?_,?_⟩)) (h2':∀r,allSl (reg r)=true:=by intro r;rfl) (hl':∀r (v:Value),(reg r).length=[v].length:=by intro r v;rfl):Km x fun r v=>RetM pg f [v] args gs (rep r) (reg r) :=
 ⟨fun {r} h v=>retDM C B tab ct hf hb hd ht hnm (hr r) h1 h1' (h2 r) (h2' r) (hl' r v) (hk r v (.i (e▸h)))⟩
end Go.Ar
