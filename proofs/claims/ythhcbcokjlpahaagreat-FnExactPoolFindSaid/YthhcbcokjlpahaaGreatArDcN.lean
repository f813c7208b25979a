import Derived.Test.YthhcbcokjlpahaaGreatArDcB
namespace Go.Ar
open Go.Proofs
set_option linter.unusedVariables false
set_option linter.unusedSimpArgs false
set_option maxRecDepth 20000
set_option maxHeartbeats 40000000
theorem N_Int:(∀ (x:Int) (f:Fl) (z:Nat),V.sl f z [[.i .i64 x]]=V.sl f z (rows intR [x])) ∧
 (∀ (x:Int) (l:List Int),sn (rows intR l) [.i .i64 x]=rows intR (ap l [x])) ∧
 (∀ (x:Int) (l:List Int) (i:Int),setAt (rows intR l) i [.i .i64 x]=rows intR (sl l i x)) ∧
 (∀ (x:Int) (n:Int),rep_ n ([.i .i64 x]:List V)=rows intR (rp n x)) ∧
 (∀ (x_0:Int) (x_1:Int) (f:Fl) (z:Nat),V.sl f z [([.i .i64 x_0]:List V),([.i .i64 x_1]:List V)]=V.sl f z (rows intR [x_0,x_1])) ∧
 (∀ (x_0:Int) (x_1:Int) (q:List (List V)),app q [([.i .i64 x_0]:List V),([.i .i64 x_1]:List V)]=app q (rows intR [x_0,x_1])) ∧
 (∀ (x_0:Int) (x_1:Int) (q:List (List V)),app [([.i .i64 x_0]:List V),([.i .i64 x_1]:List V)] q=app (rows intR [x_0,x_1]) q) ∧
 (∀ (x_0:Int) (x_1:Int) (x_2:Int) (f:Fl) (z:Nat),V.sl f z [([.i .i64 x_0]:List V),([.i .i64 x_1]:List V),([.i .i64 x_2]:List V)]=V.sl f z (rows intR [x_0,x_1,x_2])) ∧
 (∀ (x_0:Int) (x_1:Int) (x_2:Int) (q:List (List V)),app q [([.i .i64 x_0]:List V),([.i .i64 x_1]:List V),([.i .i64 x_2]:List V)]=app q (rows intR [x_0,x_1,x_2])) ∧
 (∀ (x_0:Int) (x_1:Int) (x_2:Int) (q:List (List V)),app [([.i .i64 x_0]:List V),([.i .i64 x_1]:List V),([.i .i64 x_2]:List V)] q=app (rows intR [x_0,x_1,x_2]) q) ∧
 (∀ (l:List Int),shRows (rows intR l)=rows intR l) ∧
 (∀ (l:List Int),Sc (rows intR l)=True) :=
 ⟨fun x f z=>congrArg (V.sl f z) (show [([.i .i64 x]:List V)]=rows intR [x] from lit1 intR x),
  fun x l=>sn_ap intR l x,
  fun x l i=>setAt_sl intR l i x,
  fun x n=>rep_rp intR n x,
  fun x_0 x_1 f z=>congrArg (V.sl f z) (show [([.i .i64 x_0]:List V),([.i .i64 x_1]:List V)]=rows intR [x_0,x_1] from lit2 intR x_0 x_1),
  fun x_0 x_1 q=>congrArg (app q) (show [([.i .i64 x_0]:List V),([.i .i64 x_1]:List V)]=rows intR [x_0,x_1] from lit2 intR x_0 x_1),
  fun x_0 x_1 q=>congrArg (fun y=>app y q) (show [([.i .i64 x_0]:List V),([.i .i64 x_1]:List V)]=rows intR [x_0,x_1] from lit2 intR x_0 x_1),
  fun x_0 x_1 x_2 f z=>congrArg (V.sl f z) (show [([.i .i64 x_0]:List V),([.i .i64 x_1]:List V),([.i .i64 x_2]:List V)]=rows intR [x_0,x_1,x_2] from lit3 intR x_0 x_1 x_2),
  fun x_0 x_1 x_2 q=>congrArg (app q) (show [([.i .i64 x_0]:List V),([.i .i64 x_1]:List V),([.i .i64 x_2]:List V)]=rows intR [x_0,x_1,x_2] from lit3 intR x_0 x_1 x_2),
  fun x_0 x_1 x_2 q=>congrArg (fun y=>app y q) (show [([.i .i64 x_0]:List V),([.i .i64 x_1]:List V),([.i .i64 x_2]:List V)]=rows intR [x_0,x_1,x_2] from lit3 intR x_0 x_1 x_2),
  fun l=>shRows_f intR intR (fun _=>rfl) l,
  fun l=>Sc_f intR (fun _=>rfl) l⟩
theorem N_String:(∀ (x:List UInt8) (f:Fl) (z:Nat),V.sl f z [[.s x]]=V.sl f z (rows strR [x])) ∧
 (∀ (x:List UInt8) (l:List (List UInt8)),sn (rows strR l) [.s x]=rows strR (ap l [x])) ∧
 (∀ (x:List UInt8) (l:List (List UInt8)) (i:Int),setAt (rows strR l) i [.s x]=rows strR (sl l i x)) ∧
 (∀ (x:List UInt8) (n:Int),rep_ n ([.s x]:List V)=rows strR (rp n x)) ∧
 (∀ (x_0:List UInt8) (x_1:List UInt8) (f:Fl) (z:Nat),V.sl f z [([.s x_0]:List V),([.s x_1]:List V)]=V.sl f z (rows strR [x_0,x_1])) ∧
 (∀ (x_0:List UInt8) (x_1:List UInt8) (q:List (List V)),app q [([.s x_0]:List V),([.s x_1]:List V)]=app q (rows strR [x_0,x_1])) ∧
 (∀ (x_0:List UInt8) (x_1:List UInt8) (q:List (List V)),app [([.s x_0]:List V),([.s x_1]:List V)] q=app (rows strR [x_0,x_1]) q) ∧
 (∀ (x_0:List UInt8) (x_1:List UInt8) (x_2:List UInt8) (x_3:List UInt8) (x_4:List UInt8) (x_5:List UInt8) (f:Fl) (z:Nat),V.sl f z [([.s x_0]:List V),([.s x_1]:List V),([.s x_2]:List V),([.s x_3]:List V),([.s x_4]:List V),([.s x_5]:List V)]=V.sl f z (rows strR [x_0,x_1,x_2,x_3,x_4,x_5])) ∧
 (∀ (x_0:List UInt8) (x_1:List UInt8) (x_2:List UInt8) (x_3:List UInt8) (x_4:List UInt8) (x_5:List UInt8) (q:List (List V)),app q [([.s x_0]:List V),([.s x_1]:List V),([.s x_2]:List V),([.s x_3]:List V),([.s x_4]:List V),([.s x_5]:List V)]=app q (rows strR [x_0,x_1,x_2,x_3,x_4,x_5])) ∧
 (∀ (x_0:List UInt8) (x_1:List UInt8) (x_2:List UInt8) (x_3:List UInt8) (x_4:List UInt8) (x_5:List UInt8) (q:List (List V)),app [([.s x_0]:List V),([.s x_1]:List V),([.s x_2]:List V),([.s x_3]:List V),([.s x_4]:List V),([.s x_5]:List V)] q=app (rows strR [x_0,x_1,x_2,x_3,x_4,x_5]) q) ∧
 (∀ (l:List (List UInt8)),shRows (rows strR l)=rows strR l) ∧
 (∀ (l:List (List UInt8)),Sc (rows strR l)=True) :=
 ⟨fun x f z=>congrArg (V.sl f z) (show [([.s x]:List V)]=rows strR [x] from lit1 strR x),
  fun x l=>sn_ap strR l x,
  fun x l i=>setAt_sl strR l i x,
  fun x n=>rep_rp strR n x,
  fun x_0 x_1 f z=>congrArg (V.sl f z) (show [([.s x_0]:List V),([.s x_1]:List V)]=rows strR [x_0,x_1] from lit2 strR x_0 x_1),
  fun x_0 x_1 q=>congrArg (app q) (show [([.s x_0]:List V),([.s x_1]:List V)]=rows strR [x_0,x_1] from lit2 strR x_0 x_1),
  fun x_0 x_1 q=>congrArg (fun y=>app y q) (show [([.s x_0]:List V),([.s x_1]:List V)]=rows strR [x_0,x_1] from lit2 strR x_0 x_1),
  fun x_0 x_1 x_2 x_3 x_4 x_5 f z=>congrArg (V.sl f z) (show [([.s x_0]:List V),([.s x_1]:List V),([.s x_2]:List V),([.s x_3]:List V),([.s x_4]:List V),([.s x_5]:List V)]=rows strR [x_0,x_1,x_2,x_3,x_4,x_5] from lit6 strR x_0 x_1 x_2 x_3 x_4 x_5),
  fun x_0 x_1 x_2 x_3 x_4 x_5 q=>congrArg (app q) (show [([.s x_0]:List V),([.s x_1]:List V),([.s x_2]:List V),([.s x_3]:List V),([.s x_4]:List V),([.s x_5]:List V)]=rows strR [x_0,x_1,x_2,x_3,x_4,x_5] from lit6 strR x_0 x_1 x_2 x_3 x_4 x_5),
  fun x_0 x_1 x_2 x_3 x_4 x_5 q=>congrArg (fun y=>app y q) (show [([.s x_0]:List V),([.s x_1]:List V),([.s x_2]:List V),([.s x_3]:List V),([.s x_4]:List V),([.s x_5]:List V)]=rows strR [x_0,x_1,x_2,x_3,x_4,x_5] from lit6 strR x_0 x_1 x_2 x_3 x_4 x_5),
  fun l=>shRows_f strR strR (fun _=>rfl) l,
  fun l=>Sc_f strR (fun _=>rfl) l⟩
theorem N_Bool:(∀ (x:Bool) (f:Fl) (z:Nat),V.sl f z [[.b x]]=V.sl f z (rows booR [x])) ∧
 (∀ (x:Bool) (l:List Bool),sn (rows booR l) [.b x]=rows booR (ap l [x])) ∧
 (∀ (x:Bool) (l:List Bool) (i:Int),setAt (rows booR l) i [.b x]=rows booR (sl l i x)) ∧
 (∀ (x:Bool) (n:Int),rep_ n ([.b x]:List V)=rows booR (rp n x)) ∧
 (∀ (l:List Bool),shRows (rows booR l)=rows booR l) ∧
 (∀ (l:List Bool),Sc (rows booR l)=True) :=
 ⟨fun x f z=>congrArg (V.sl f z) (show [([.b x]:List V)]=rows booR [x] from lit1 booR x),
  fun x l=>sn_ap booR l x,
  fun x l i=>setAt_sl booR l i x,
  fun x n=>rep_rp booR n x,
  fun l=>shRows_f booR booR (fun _=>rfl) l,
  fun l=>Sc_f booR (fun _=>rfl) l⟩
theorem N_Node:(∀ (x0:Int) (x1:Int) (x2:Int) (x3:Int) (x4:List Int) (f:Fl) (z:Nat),V.sl f z [[.i .i64 x0,.i .i64 x1,.i .i64 x2,.i .i64 x3,.sl .own 1 (rows intR x4)]]=V.sl f z (rows nodeR [(⟨x0,x1,x2,x3,x4⟩:NodeD)])) ∧
 (∀ (x0:Int) (x1:Int) (x2:Int) (x3:Int) (x4:List Int) (l:List NodeD),sn (rows nodeR l) [.i .i64 x0,.i .i64 x1,.i .i64 x2,.i .i64 x3,.sl .own 1 (rows intR x4)]=rows nodeR (ap l [(⟨x0,x1,x2,x3,x4⟩:NodeD)])) ∧
 (∀ (x0:Int) (x1:Int) (x2:Int) (x3:Int) (x4:List Int) (l:List NodeD) (i:Int),setAt (rows nodeR l) i [.i .i64 x0,.i .i64 x1,.i .i64 x2,.i .i64 x3,.sl .own 1 (rows intR x4)]=rows nodeR (sl l i (⟨x0,x1,x2,x3,x4⟩:NodeD))) ∧
 (∀ (x0:Int) (x1:Int) (x2:Int) (x3:Int) (f:Fl) (z:Nat),V.sl f z [[.i .i64 x0,.i .i64 x1,.i .i64 x2,.i .i64 x3,.sl .own 1 []]]=V.sl f z (rows nodeR [(⟨x0,x1,x2,x3,[]⟩:NodeD)])) ∧
 (∀ (x0:Int) (x1:Int) (x2:Int) (x3:Int) (l:List NodeD),sn (rows nodeR l) [.i .i64 x0,.i .i64 x1,.i .i64 x2,.i .i64 x3,.sl .own 1 []]=rows nodeR (ap l [(⟨x0,x1,x2,x3,[]⟩:NodeD)])) ∧
 (∀ (x0:Int) (x1:Int) (x2:Int) (x3:Int) (l:List NodeD) (i:Int),setAt (rows nodeR l) i [.i .i64 x0,.i .i64 x1,.i .i64 x2,.i .i64 x3,.sl .own 1 []]=rows nodeR (sl l i (⟨x0,x1,x2,x3,[]⟩:NodeD))) ∧
 (∀ (x0:Int) (x1:Int) (x2:Int) (x3:Int) (n:Int),rep_ n ([.i .i64 x0,.i .i64 x1,.i .i64 x2,.i .i64 x3,.sl .own 1 []]:List V)=rows nodeR (rp n (⟨x0,x1,x2,x3,[]⟩:NodeD))) ∧
 (∀ (x0:Int) (x1:Int) (x2:Int) (x3:Int) (x4:List Int) (f:Fl) (z:Nat),V.sl f z [[.i .i64 x0,.i .i64 x1,.i .i64 x2,.i .i64 x3,.sl .shr 1 (rows intR x4)]]=V.sl f z (rows nodeC [(⟨x0,x1,x2,x3,x4⟩:NodeD)])) ∧
 (∀ (x0:Int) (x1:Int) (x2:Int) (x3:Int) (x4:List Int) (l:List NodeD),sn (rows nodeC l) [.i .i64 x0,.i .i64 x1,.i .i64 x2,.i .i64 x3,.sl .shr 1 (rows intR x4)]=rows nodeC (ap l [(⟨x0,x1,x2,x3,x4⟩:NodeD)])) ∧
 (∀ (x0:Int) (x1:Int) (x2:Int) (x3:Int) (f:Fl) (z:Nat),V.sl f z [[.i .i64 x0,.i .i64 x1,.i .i64 x2,.i .i64 x3,.sl .shr 1 []]]=V.sl f z (rows nodeC [(⟨x0,x1,x2,x3,[]⟩:NodeD)])) ∧
 (∀ (x0:Int) (x1:Int) (x2:Int) (x3:Int) (l:List NodeD),sn (rows nodeC l) [.i .i64 x0,.i .i64 x1,.i .i64 x2,.i .i64 x3,.sl .shr 1 []]=rows nodeC (ap l [(⟨x0,x1,x2,x3,[]⟩:NodeD)])) ∧
 (∀ (x:NodeD),(⟨x.kind,x.gen,x.time,x.size,x.blocks⟩:NodeD)=x) ∧
 (∀ (l:List NodeD),shRows (rows nodeR l)=rows nodeC l) :=
 ⟨fun x0 x1 x2 x3 x4 f z=>congrArg (V.sl f z) (show [([.i .i64 x0,.i .i64 x1,.i .i64 x2,.i .i64 x3,.sl .own 1 (rows intR x4)]:List V)]=rows nodeR [(⟨x0,x1,x2,x3,x4⟩:NodeD)] from lit1 nodeR (⟨x0,x1,x2,x3,x4⟩:NodeD)),
  fun x0 x1 x2 x3 x4 l=>sn_ap nodeR l (⟨x0,x1,x2,x3,x4⟩:NodeD),
  fun x0 x1 x2 x3 x4 l i=>setAt_sl nodeR l i (⟨x0,x1,x2,x3,x4⟩:NodeD),
  fun x0 x1 x2 x3 f z=>congrArg (V.sl f z) (show [([.i .i64 x0,.i .i64 x1,.i .i64 x2,.i .i64 x3,.sl .own 1 []]:List V)]=rows nodeR [(⟨x0,x1,x2,x3,[]⟩:NodeD)] from by rw [(show ([.i .i64 x0,.i .i64 x1,.i .i64 x2,.i .i64 x3,.sl .own 1 []]:List V)=nodeR (⟨x0,x1,x2,x3,[]⟩:NodeD) from by simp only [nodeR,rows_nil])];exact lit1 nodeR (⟨x0,x1,x2,x3,[]⟩:NodeD)),
  fun x0 x1 x2 x3 l=>by rw [(show ([.i .i64 x0,.i .i64 x1,.i .i64 x2,.i .i64 x3,.sl .own 1 []]:List V)=nodeR (⟨x0,x1,x2,x3,[]⟩:NodeD) from by simp only [nodeR,rows_nil])];exact sn_ap nodeR l _,
  fun x0 x1 x2 x3 l i=>by rw [(show ([.i .i64 x0,.i .i64 x1,.i .i64 x2,.i .i64 x3,.sl .own 1 []]:List V)=nodeR (⟨x0,x1,x2,x3,[]⟩:NodeD) from by simp only [nodeR,rows_nil])];exact setAt_sl nodeR l i (⟨x0,x1,x2,x3,[]⟩:NodeD),
  fun x0 x1 x2 x3 n=>by rw [(show ([.i .i64 x0,.i .i64 x1,.i .i64 x2,.i .i64 x3,.sl .own 1 []]:List V)=nodeR (⟨x0,x1,x2,x3,[]⟩:NodeD) from by simp only [nodeR,rows_nil])];exact rep_rp nodeR n (⟨x0,x1,x2,x3,[]⟩:NodeD),
  fun x0 x1 x2 x3 x4 f z=>congrArg (V.sl f z) (show [([.i .i64 x0,.i .i64 x1,.i .i64 x2,.i .i64 x3,.sl .shr 1 (rows intR x4)]:List V)]=rows nodeC [(⟨x0,x1,x2,x3,x4⟩:NodeD)] from lit1 nodeC (⟨x0,x1,x2,x3,x4⟩:NodeD)),
  fun x0 x1 x2 x3 x4 l=>sn_ap nodeC l (⟨x0,x1,x2,x3,x4⟩:NodeD),
  fun x0 x1 x2 x3 f z=>congrArg (V.sl f z) (show [([.i .i64 x0,.i .i64 x1,.i .i64 x2,.i .i64 x3,.sl .shr 1 []]:List V)]=rows nodeC [(⟨x0,x1,x2,x3,[]⟩:NodeD)] from by rw [(show ([.i .i64 x0,.i .i64 x1,.i .i64 x2,.i .i64 x3,.sl .shr 1 []]:List V)=nodeC (⟨x0,x1,x2,x3,[]⟩:NodeD) from by simp only [nodeC,rows_nil])];exact lit1 nodeC (⟨x0,x1,x2,x3,[]⟩:NodeD)),
  fun x0 x1 x2 x3 l=>by rw [(show ([.i .i64 x0,.i .i64 x1,.i .i64 x2,.i .i64 x3,.sl .shr 1 []]:List V)=nodeC (⟨x0,x1,x2,x3,[]⟩:NodeD) from by simp only [nodeC,rows_nil])];exact sn_ap nodeC l _,
  fun x=>rfl,
  fun l=>shRows_f nodeR nodeC (fun _=>rfl) l⟩
theorem N_Fs:(∀ (x0:List NodeD) (x1:List (List UInt8)) (f:Fl) (z:Nat),V.sl f z [[.sl .own 5 (rows nodeR x0),.sl .own 1 (rows strR x1)]]=V.sl f z (rows fsR [(⟨x0,x1⟩:FsD)])) ∧
 (∀ (x0:List NodeD) (x1:List (List UInt8)) (l:List FsD),sn (rows fsR l) [.sl .own 5 (rows nodeR x0),.sl .own 1 (rows strR x1)]=rows fsR (ap l [(⟨x0,x1⟩:FsD)])) ∧
 (∀ (x0:List NodeD) (x1:List (List UInt8)) (l:List FsD) (i:Int),setAt (rows fsR l) i [.sl .own 5 (rows nodeR x0),.sl .own 1 (rows strR x1)]=rows fsR (sl l i (⟨x0,x1⟩:FsD))) ∧
 (∀ (x1:List (List UInt8)) (f:Fl) (z:Nat),V.sl f z [[.sl .own 5 [],.sl .own 1 (rows strR x1)]]=V.sl f z (rows fsR [(⟨[],x1⟩:FsD)])) ∧
 (∀ (x1:List (List UInt8)) (l:List FsD),sn (rows fsR l) [.sl .own 5 [],.sl .own 1 (rows strR x1)]=rows fsR (ap l [(⟨[],x1⟩:FsD)])) ∧
 (∀ (x1:List (List UInt8)) (l:List FsD) (i:Int),setAt (rows fsR l) i [.sl .own 5 [],.sl .own 1 (rows strR x1)]=rows fsR (sl l i (⟨[],x1⟩:FsD))) ∧
 (∀ (x0:List NodeD) (f:Fl) (z:Nat),V.sl f z [[.sl .own 5 (rows nodeR x0),.sl .own 1 []]]=V.sl f z (rows fsR [(⟨x0,[]⟩:FsD)])) ∧
 (∀ (x0:List NodeD) (l:List FsD),sn (rows fsR l) [.sl .own 5 (rows nodeR x0),.sl .own 1 []]=rows fsR (ap l [(⟨x0,[]⟩:FsD)])) ∧
 (∀ (x0:List NodeD) (l:List FsD) (i:Int),setAt (rows fsR l) i [.sl .own 5 (rows nodeR x0),.sl .own 1 []]=rows fsR (sl l i (⟨x0,[]⟩:FsD))) ∧
 (∀ (f:Fl) (z:Nat),V.sl f z [[.sl .own 5 [],.sl .own 1 []]]=V.sl f z (rows fsR [(⟨[],[]⟩:FsD)])) ∧
 (∀ (l:List FsD),sn (rows fsR l) [.sl .own 5 [],.sl .own 1 []]=rows fsR (ap l [(⟨[],[]⟩:FsD)])) ∧
 (∀ (l:List FsD) (i:Int),setAt (rows fsR l) i [.sl .own 5 [],.sl .own 1 []]=rows fsR (sl l i (⟨[],[]⟩:FsD))) ∧
 (∀ (n:Int),rep_ n ([.sl .own 5 [],.sl .own 1 []]:List V)=rows fsR (rp n (⟨[],[]⟩:FsD))) ∧
 (∀ (x0:List NodeD) (x1:List (List UInt8)) (f:Fl) (z:Nat),V.sl f z [[.sl .shr 5 (rows nodeR x0),.sl .shr 1 (rows strR x1)]]=V.sl f z (rows fsC [(⟨x0,x1⟩:FsD)])) ∧
 (∀ (x0:List NodeD) (x1:List (List UInt8)) (l:List FsD),sn (rows fsC l) [.sl .shr 5 (rows nodeR x0),.sl .shr 1 (rows strR x1)]=rows fsC (ap l [(⟨x0,x1⟩:FsD)])) ∧
 (∀ (x1:List (List UInt8)) (f:Fl) (z:Nat),V.sl f z [[.sl .shr 5 [],.sl .shr 1 (rows strR x1)]]=V.sl f z (rows fsC [(⟨[],x1⟩:FsD)])) ∧
 (∀ (x1:List (List UInt8)) (l:List FsD),sn (rows fsC l) [.sl .shr 5 [],.sl .shr 1 (rows strR x1)]=rows fsC (ap l [(⟨[],x1⟩:FsD)])) ∧
 (∀ (x0:List NodeD) (f:Fl) (z:Nat),V.sl f z [[.sl .shr 5 (rows nodeR x0),.sl .shr 1 []]]=V.sl f z (rows fsC [(⟨x0,[]⟩:FsD)])) ∧
 (∀ (x0:List NodeD) (l:List FsD),sn (rows fsC l) [.sl .shr 5 (rows nodeR x0),.sl .shr 1 []]=rows fsC (ap l [(⟨x0,[]⟩:FsD)])) ∧
 (∀ (f:Fl) (z:Nat),V.sl f z [[.sl .shr 5 [],.sl .shr 1 []]]=V.sl f z (rows fsC [(⟨[],[]⟩:FsD)])) ∧
 (∀ (l:List FsD),sn (rows fsC l) [.sl .shr 5 [],.sl .shr 1 []]=rows fsC (ap l [(⟨[],[]⟩:FsD)])) ∧
 (∀ (x:FsD),(⟨x.nodes,x.data⟩:FsD)=x) ∧
 (∀ (l:List FsD),shRows (rows fsR l)=rows fsC l) :=
 ⟨fun x0 x1 f z=>congrArg (V.sl f z) (show [([.sl .own 5 (rows nodeR x0),.sl .own 1 (rows strR x1)]:List V)]=rows fsR [(⟨x0,x1⟩:FsD)] from lit1 fsR (⟨x0,x1⟩:FsD)),
  fun x0 x1 l=>sn_ap fsR l (⟨x0,x1⟩:FsD),
  fun x0 x1 l i=>setAt_sl fsR l i (⟨x0,x1⟩:FsD),
  fun x1 f z=>congrArg (V.sl f z) (show [([.sl .own 5 [],.sl .own 1 (rows strR x1)]:List V)]=rows fsR [(⟨[],x1⟩:FsD)] from by rw [(show ([.sl .own 5 [],.sl .own 1 (rows strR x1)]:List V)=fsR (⟨[],x1⟩:FsD) from by simp only [fsR,rows_nil])];exact lit1 fsR (⟨[],x1⟩:FsD)),
  fun x1 l=>by rw [(show ([.sl .own 5 [],.sl .own 1 (rows strR x1)]:List V)=fsR (⟨[],x1⟩:FsD) from by simp only [fsR,rows_nil])];exact sn_ap fsR l _,
  fun x1 l i=>by rw [(show ([.sl .own 5 [],.sl .own 1 (rows strR x1)]:List V)=fsR (⟨[],x1⟩:FsD) from by simp only [fsR,rows_nil])];exact setAt_sl fsR l i (⟨[],x1⟩:FsD),
  fun x0 f z=>congrArg (V.sl f z) (show [([.sl .own 5 (rows nodeR x0),.sl .own 1 []]:List V)]=rows fsR [(⟨x0,[]⟩:FsD)] from by rw [(show ([.sl .own 5 (rows nodeR x0),.sl .own 1 []]:List V)=fsR (⟨x0,[]⟩:FsD) from by simp only [fsR,rows_nil])];exact lit1 fsR (⟨x0,[]⟩:FsD)),
  fun x0 l=>by rw [(show ([.sl .own 5 (rows nodeR x0),.sl .own 1 []]:List V)=fsR (⟨x0,[]⟩:FsD) from by simp only [fsR,rows_nil])];exact sn_ap fsR l _,
  fun x0 l i=>by rw [(show ([.sl .own 5 (rows nodeR x0),.sl .own 1 []]:List V)=fsR (⟨x0,[]⟩:FsD) from by simp only [fsR,rows_nil])];exact setAt_sl fsR l i (⟨x0,[]⟩:FsD),
  fun f z=>congrArg (V.sl f z) (show [([.sl .own 5 [],.sl .own 1 []]:List V)]=rows fsR [(⟨[],[]⟩:FsD)] from by rw [(show ([.sl .own 5 [],.sl .own 1 []]:List V)=fsR (⟨[],[]⟩:FsD) from by simp only [fsR,rows_nil])];exact lit1 fsR (⟨[],[]⟩:FsD)),
  fun l=>by rw [(show ([.sl .own 5 [],.sl .own 1 []]:List V)=fsR (⟨[],[]⟩:FsD) from by simp only [fsR,rows_nil])];exact sn_ap fsR l _,
  fun l i=>by rw [(show ([.sl .own 5 [],.sl .own 1 []]:List V)=fsR (⟨[],[]⟩:FsD) from by simp only [fsR,rows_nil])];exact setAt_sl fsR l i (⟨[],[]⟩:FsD),
  fun n=>by rw [(show ([.sl .own 5 [],.sl .own 1 []]:List V)=fsR (⟨[],[]⟩:FsD) from by simp only [fsR,rows_nil])];exact rep_rp fsR n (⟨[],[]⟩:FsD),
  fun x0 x1 f z=>congrArg (V.sl f z) (show [([.sl .shr 5 (rows nodeR x0),.sl .shr 1 (rows strR x1)]:List V)]=rows fsC [(⟨x0,x1⟩:FsD)] from lit1 fsC (⟨x0,x1⟩:FsD)),
  fun x0 x1 l=>sn_ap fsC l (⟨x0,x1⟩:FsD),
  fun x1 f z=>congrArg (V.sl f z) (show [([.sl .shr 5 [],.sl .shr 1 (rows strR x1)]:List V)]=rows fsC [(⟨[],x1⟩:FsD)] from by rw [(show ([.sl .shr 5 [],.sl .shr 1 (rows strR x1)]:List V)=fsC (⟨[],x1⟩:FsD) from by simp only [fsC,rows_nil])];exact lit1 fsC (⟨[],x1⟩:FsD)),
  fun x1 l=>by rw [(show ([.sl .shr 5 [],.sl .shr 1 (rows strR x1)]:List V)=fsC (⟨[],x1⟩:FsD) from by simp only [fsC,rows_nil])];exact sn_ap fsC l _,
  fun x0 f z=>congrArg (V.sl f z) (show [([.sl .shr 5 (rows nodeR x0),.sl .shr 1 []]:List V)]=rows fsC [(⟨x0,[]⟩:FsD)] from by rw [(show ([.sl .shr 5 (rows nodeR x0),.sl .shr 1 []]:List V)=fsC (⟨x0,[]⟩:FsD) from by simp only [fsC,rows_nil])];exact lit1 fsC (⟨x0,[]⟩:FsD)),
  fun x0 l=>by rw [(show ([.sl .shr 5 (rows nodeR x0),.sl .shr 1 []]:List V)=fsC (⟨x0,[]⟩:FsD) from by simp only [fsC,rows_nil])];exact sn_ap fsC l _,
  fun f z=>congrArg (V.sl f z) (show [([.sl .shr 5 [],.sl .shr 1 []]:List V)]=rows fsC [(⟨[],[]⟩:FsD)] from by rw [(show ([.sl .shr 5 [],.sl .shr 1 []]:List V)=fsC (⟨[],[]⟩:FsD) from by simp only [fsC,rows_nil])];exact lit1 fsC (⟨[],[]⟩:FsD)),
  fun l=>by rw [(show ([.sl .shr 5 [],.sl .shr 1 []]:List V)=fsC (⟨[],[]⟩:FsD) from by simp only [fsC,rows_nil])];exact sn_ap fsC l _,
  fun x=>rfl,
  fun l=>shRows_f fsR fsC (fun _=>rfl) l⟩
theorem N_Branch:(∀ (x0:Int) (x1:List NodeD) (x2:List (List UInt8)) (f:Fl) (z:Nat),V.sl f z [[.i .i64 x0,.sl .own 5 (rows nodeR x1),.sl .own 1 (rows strR x2)]]=V.sl f z (rows branchR [(⟨x0,⟨x1,x2⟩⟩:BranchD)])) ∧
 (∀ (x0:Int) (x1:List NodeD) (x2:List (List UInt8)) (l:List BranchD),sn (rows branchR l) [.i .i64 x0,.sl .own 5 (rows nodeR x1),.sl .own 1 (rows strR x2)]=rows branchR (ap l [(⟨x0,⟨x1,x2⟩⟩:BranchD)])) ∧
 (∀ (x0:Int) (x1:List NodeD) (x2:List (List UInt8)) (l:List BranchD) (i:Int),setAt (rows branchR l) i [.i .i64 x0,.sl .own 5 (rows nodeR x1),.sl .own 1 (rows strR x2)]=rows branchR (sl l i (⟨x0,⟨x1,x2⟩⟩:BranchD))) ∧
 (∀ (x0:Int) (x2:List (List UInt8)) (f:Fl) (z:Nat),V.sl f z [[.i .i64 x0,.sl .own 5 [],.sl .own 1 (rows strR x2)]]=V.sl f z (rows branchR [(⟨x0,⟨[],x2⟩⟩:BranchD)])) ∧
 (∀ (x0:Int) (x2:List (List UInt8)) (l:List BranchD),sn (rows branchR l) [.i .i64 x0,.sl .own 5 [],.sl .own 1 (rows strR x2)]=rows branchR (ap l [(⟨x0,⟨[],x2⟩⟩:BranchD)])) ∧
 (∀ (x0:Int) (x2:List (List UInt8)) (l:List BranchD) (i:Int),setAt (rows branchR l) i [.i .i64 x0,.sl .own 5 [],.sl .own 1 (rows strR x2)]=rows branchR (sl l i (⟨x0,⟨[],x2⟩⟩:BranchD))) ∧
 (∀ (x0:Int) (x1:List NodeD) (f:Fl) (z:Nat),V.sl f z [[.i .i64 x0,.sl .own 5 (rows nodeR x1),.sl .own 1 []]]=V.sl f z (rows branchR [(⟨x0,⟨x1,[]⟩⟩:BranchD)])) ∧
 (∀ (x0:Int) (x1:List NodeD) (l:List BranchD),sn (rows branchR l) [.i .i64 x0,.sl .own 5 (rows nodeR x1),.sl .own 1 []]=rows branchR (ap l [(⟨x0,⟨x1,[]⟩⟩:BranchD)])) ∧
 (∀ (x0:Int) (x1:List NodeD) (l:List BranchD) (i:Int),setAt (rows branchR l) i [.i .i64 x0,.sl .own 5 (rows nodeR x1),.sl .own 1 []]=rows branchR (sl l i (⟨x0,⟨x1,[]⟩⟩:BranchD))) ∧
 (∀ (x0:Int) (f:Fl) (z:Nat),V.sl f z [[.i .i64 x0,.sl .own 5 [],.sl .own 1 []]]=V.sl f z (rows branchR [(⟨x0,⟨[],[]⟩⟩:BranchD)])) ∧
 (∀ (x0:Int) (l:List BranchD),sn (rows branchR l) [.i .i64 x0,.sl .own 5 [],.sl .own 1 []]=rows branchR (ap l [(⟨x0,⟨[],[]⟩⟩:BranchD)])) ∧
 (∀ (x0:Int) (l:List BranchD) (i:Int),setAt (rows branchR l) i [.i .i64 x0,.sl .own 5 [],.sl .own 1 []]=rows branchR (sl l i (⟨x0,⟨[],[]⟩⟩:BranchD))) ∧
 (∀ (x0:Int) (n:Int),rep_ n ([.i .i64 x0,.sl .own 5 [],.sl .own 1 []]:List V)=rows branchR (rp n (⟨x0,⟨[],[]⟩⟩:BranchD))) ∧
 (∀ (x0:Int) (x1:List NodeD) (x2:List (List UInt8)) (f:Fl) (z:Nat),V.sl f z [[.i .i64 x0,.sl .shr 5 (rows nodeR x1),.sl .shr 1 (rows strR x2)]]=V.sl f z (rows branchC [(⟨x0,⟨x1,x2⟩⟩:BranchD)])) ∧
 (∀ (x0:Int) (x1:List NodeD) (x2:List (List UInt8)) (l:List BranchD),sn (rows branchC l) [.i .i64 x0,.sl .shr 5 (rows nodeR x1),.sl .shr 1 (rows strR x2)]=rows branchC (ap l [(⟨x0,⟨x1,x2⟩⟩:BranchD)])) ∧
 (∀ (x0:Int) (x2:List (List UInt8)) (f:Fl) (z:Nat),V.sl f z [[.i .i64 x0,.sl .shr 5 [],.sl .shr 1 (rows strR x2)]]=V.sl f z (rows branchC [(⟨x0,⟨[],x2⟩⟩:BranchD)])) ∧
 (∀ (x0:Int) (x2:List (List UInt8)) (l:List BranchD),sn (rows branchC l) [.i .i64 x0,.sl .shr 5 [],.sl .shr 1 (rows strR x2)]=rows branchC (ap l [(⟨x0,⟨[],x2⟩⟩:BranchD)])) ∧
 (∀ (x0:Int) (x1:List NodeD) (f:Fl) (z:Nat),V.sl f z [[.i .i64 x0,.sl .shr 5 (rows nodeR x1),.sl .shr 1 []]]=V.sl f z (rows branchC [(⟨x0,⟨x1,[]⟩⟩:BranchD)])) ∧
 (∀ (x0:Int) (x1:List NodeD) (l:List BranchD),sn (rows branchC l) [.i .i64 x0,.sl .shr 5 (rows nodeR x1),.sl .shr 1 []]=rows branchC (ap l [(⟨x0,⟨x1,[]⟩⟩:BranchD)])) ∧
 (∀ (x0:Int) (f:Fl) (z:Nat),V.sl f z [[.i .i64 x0,.sl .shr 5 [],.sl .shr 1 []]]=V.sl f z (rows branchC [(⟨x0,⟨[],[]⟩⟩:BranchD)])) ∧
 (∀ (x0:Int) (l:List BranchD),sn (rows branchC l) [.i .i64 x0,.sl .shr 5 [],.sl .shr 1 []]=rows branchC (ap l [(⟨x0,⟨[],[]⟩⟩:BranchD)])) ∧
 (∀ (x:BranchD),(⟨x.mode,⟨x.fs.nodes,x.fs.data⟩⟩:BranchD)=x) ∧
 (∀ (l:List BranchD),shRows (rows branchR l)=rows branchC l) :=
 ⟨fun x0 x1 x2 f z=>congrArg (V.sl f z) (show [([.i .i64 x0,.sl .own 5 (rows nodeR x1),.sl .own 1 (rows strR x2)]:List V)]=rows branchR [(⟨x0,⟨x1,x2⟩⟩:BranchD)] from lit1 branchR (⟨x0,⟨x1,x2⟩⟩:BranchD)),
  fun x0 x1 x2 l=>sn_ap branchR l (⟨x0,⟨x1,x2⟩⟩:BranchD),
  fun x0 x1 x2 l i=>setAt_sl branchR l i (⟨x0,⟨x1,x2⟩⟩:BranchD),
  fun x0 x2 f z=>congrArg (V.sl f z) (show [([.i .i64 x0,.sl .own 5 [],.sl .own 1 (rows strR x2)]:List V)]=rows branchR [(⟨x0,⟨[],x2⟩⟩:BranchD)] from by rw [(show ([.i .i64 x0,.sl .own 5 [],.sl .own 1 (rows strR x2)]:List V)=branchR (⟨x0,⟨[],x2⟩⟩:BranchD) from by simp only [branchR,rows_nil])];exact lit1 branchR (⟨x0,⟨[],x2⟩⟩:BranchD)),
  fun x0 x2 l=>by rw [(show ([.i .i64 x0,.sl .own 5 [],.sl .own 1 (rows strR x2)]:List V)=branchR (⟨x0,⟨[],x2⟩⟩:BranchD) from by simp only [branchR,rows_nil])];exact sn_ap branchR l _,
  fun x0 x2 l i=>by rw [(show ([.i .i64 x0,.sl .own 5 [],.sl .own 1 (rows strR x2)]:List V)=branchR (⟨x0,⟨[],x2⟩⟩:BranchD) from by simp only [branchR,rows_nil])];exact setAt_sl branchR l i (⟨x0,⟨[],x2⟩⟩:BranchD),
  fun x0 x1 f z=>congrArg (V.sl f z) (show [([.i .i64 x0,.sl .own 5 (rows nodeR x1),.sl .own 1 []]:List V)]=rows branchR [(⟨x0,⟨x1,[]⟩⟩:BranchD)] from by rw [(show ([.i .i64 x0,.sl .own 5 (rows nodeR x1),.sl .own 1 []]:List V)=branchR (⟨x0,⟨x1,[]⟩⟩:BranchD) from by simp only [branchR,rows_nil])];exact lit1 branchR (⟨x0,⟨x1,[]⟩⟩:BranchD)),
  fun x0 x1 l=>by rw [(show ([.i .i64 x0,.sl .own 5 (rows nodeR x1),.sl .own 1 []]:List V)=branchR (⟨x0,⟨x1,[]⟩⟩:BranchD) from by simp only [branchR,rows_nil])];exact sn_ap branchR l _,
  fun x0 x1 l i=>by rw [(show ([.i .i64 x0,.sl .own 5 (rows nodeR x1),.sl .own 1 []]:List V)=branchR (⟨x0,⟨x1,[]⟩⟩:BranchD) from by simp only [branchR,rows_nil])];exact setAt_sl branchR l i (⟨x0,⟨x1,[]⟩⟩:BranchD),
  fun x0 f z=>congrArg (V.sl f z) (show [([.i .i64 x0,.sl .own 5 [],.sl .own 1 []]:List V)]=rows branchR [(⟨x0,⟨[],[]⟩⟩:BranchD)] from by rw [(show ([.i .i64 x0,.sl .own 5 [],.sl .own 1 []]:List V)=branchR (⟨x0,⟨[],[]⟩⟩:BranchD) from by simp only [branchR,rows_nil])];exact lit1 branchR (⟨x0,⟨[],[]⟩⟩:BranchD)),
  fun x0 l=>by rw [(show ([.i .i64 x0,.sl .own 5 [],.sl .own 1 []]:List V)=branchR (⟨x0,⟨[],[]⟩⟩:BranchD) from by simp only [branchR,rows_nil])];exact sn_ap branchR l _,
  fun x0 l i=>by rw [(show ([.i .i64 x0,.sl .own 5 [],.sl .own 1 []]:List V)=branchR (⟨x0,⟨[],[]⟩⟩:BranchD) from by simp only [branchR,rows_nil])];exact setAt_sl branchR l i (⟨x0,⟨[],[]⟩⟩:BranchD),
  fun x0 n=>by rw [(show ([.i .i64 x0,.sl .own 5 [],.sl .own 1 []]:List V)=branchR (⟨x0,⟨[],[]⟩⟩:BranchD) from by simp only [branchR,rows_nil])];exact rep_rp branchR n (⟨x0,⟨[],[]⟩⟩:BranchD),
  fun x0 x1 x2 f z=>congrArg (V.sl f z) (show [([.i .i64 x0,.sl .shr 5 (rows nodeR x1),.sl .shr 1 (rows strR x2)]:List V)]=rows branchC [(⟨x0,⟨x1,x2⟩⟩:BranchD)] from lit1 branchC (⟨x0,⟨x1,x2⟩⟩:BranchD)),
  fun x0 x1 x2 l=>sn_ap branchC l (⟨x0,⟨x1,x2⟩⟩:BranchD),
  fun x0 x2 f z=>congrArg (V.sl f z) (show [([.i .i64 x0,.sl .shr 5 [],.sl .shr 1 (rows strR x2)]:List V)]=rows branchC [(⟨x0,⟨[],x2⟩⟩:BranchD)] from by rw [(show ([.i .i64 x0,.sl .shr 5 [],.sl .shr 1 (rows strR x2)]:List V)=branchC (⟨x0,⟨[],x2⟩⟩:BranchD) from by simp only [branchC,rows_nil])];exact lit1 branchC (⟨x0,⟨[],x2⟩⟩:BranchD)),
  fun x0 x2 l=>by rw [(show ([.i .i64 x0,.sl .shr 5 [],.sl .shr 1 (rows strR x2)]:List V)=branchC (⟨x0,⟨[],x2⟩⟩:BranchD) from by simp only [branchC,rows_nil])];exact sn_ap branchC l _,
  fun x0 x1 f z=>congrArg (V.sl f z) (show [([.i .i64 x0,.sl .shr 5 (rows nodeR x1),.sl .shr 1 []]:List V)]=rows branchC [(⟨x0,⟨x1,[]⟩⟩:BranchD)] from by rw [(show ([.i .i64 x0,.sl .shr 5 (rows nodeR x1),.sl .shr 1 []]:List V)=branchC (⟨x0,⟨x1,[]⟩⟩:BranchD) from by simp only [branchC,rows_nil])];exact lit1 branchC (⟨x0,⟨x1,[]⟩⟩:BranchD)),
  fun x0 x1 l=>by rw [(show ([.i .i64 x0,.sl .shr 5 (rows nodeR x1),.sl .shr 1 []]:List V)=branchC (⟨x0,⟨x1,[]⟩⟩:BranchD) from by simp only [branchC,rows_nil])];exact sn_ap branchC l _,
  fun x0 f z=>congrArg (V.sl f z) (show [([.i .i64 x0,.sl .shr 5 [],.sl .shr 1 []]:List V)]=rows branchC [(⟨x0,⟨[],[]⟩⟩:BranchD)] from by rw [(show ([.i .i64 x0,.sl .shr 5 [],.sl .shr 1 []]:List V)=branchC (⟨x0,⟨[],[]⟩⟩:BranchD) from by simp only [branchC,rows_nil])];exact lit1 branchC (⟨x0,⟨[],[]⟩⟩:BranchD)),
  fun x0 l=>by rw [(show ([.i .i64 x0,.sl .shr 5 [],.sl .shr 1 []]:List V)=branchC (⟨x0,⟨[],[]⟩⟩:BranchD) from by simp only [branchC,rows_nil])];exact sn_ap branchC l _,
  fun x=>rfl,
  fun l=>shRows_f branchR branchC (fun _=>rfl) l⟩
theorem N_Move:(∀ (x0:Bool) (x1:Bool) (x2:Int) (x3:Int) (x4:List UInt8) (x5:Int) (x6:Int) (f:Fl) (z:Nat),V.sl f z [[.b x0,.b x1,.i .i64 x2,.i .i64 x3,.s x4,.i .i64 x5,.i .i64 x6]]=V.sl f z (rows moveR [(⟨x0,x1,x2,x3,x4,x5,x6⟩:MoveD)])) ∧
 (∀ (x0:Bool) (x1:Bool) (x2:Int) (x3:Int) (x4:List UInt8) (x5:Int) (x6:Int) (l:List MoveD),sn (rows moveR l) [.b x0,.b x1,.i .i64 x2,.i .i64 x3,.s x4,.i .i64 x5,.i .i64 x6]=rows moveR (ap l [(⟨x0,x1,x2,x3,x4,x5,x6⟩:MoveD)])) ∧
 (∀ (x0:Bool) (x1:Bool) (x2:Int) (x3:Int) (x4:List UInt8) (x5:Int) (x6:Int) (l:List MoveD) (i:Int),setAt (rows moveR l) i [.b x0,.b x1,.i .i64 x2,.i .i64 x3,.s x4,.i .i64 x5,.i .i64 x6]=rows moveR (sl l i (⟨x0,x1,x2,x3,x4,x5,x6⟩:MoveD))) ∧
 (∀ (x0:Bool) (x1:Bool) (x2:Int) (x3:Int) (x4:List UInt8) (x5:Int) (x6:Int) (n:Int),rep_ n ([.b x0,.b x1,.i .i64 x2,.i .i64 x3,.s x4,.i .i64 x5,.i .i64 x6]:List V)=rows moveR (rp n (⟨x0,x1,x2,x3,x4,x5,x6⟩:MoveD))) ∧
 (∀ (x:MoveD),(⟨x.on,x.cln,x.src,x.dst,x.path,x.gen,x.dn⟩:MoveD)=x) ∧
 (∀ (x0:Bool) (x1:Bool) (x2:Int) (x3:Int) (x4:List UInt8) (x5:Int) (x6:Int) (y0:Bool) (y1:Bool) (y2:Int) (y3:Int) (y4:List UInt8) (y5:Int) (y6:Int),vEq [.b x0,.b x1,.i .i64 x2,.i .i64 x3,.s x4,.i .i64 x5,.i .i64 x6] [.b y0,.b y1,.i .i64 y2,.i .i64 y3,.s y4,.i .i64 y5,.i .i64 y6]=rq (⟨x0,x1,x2,x3,x4,x5,x6⟩:MoveD) (⟨y0,y1,y2,y3,y4,y5,y6⟩:MoveD)) ∧
 (∀ (l:List MoveD),shRows (rows moveR l)=rows moveR l) ∧
 (∀ (l:List MoveD),Sc (rows moveR l)=True) :=
 ⟨fun x0 x1 x2 x3 x4 x5 x6 f z=>congrArg (V.sl f z) (show [([.b x0,.b x1,.i .i64 x2,.i .i64 x3,.s x4,.i .i64 x5,.i .i64 x6]:List V)]=rows moveR [(⟨x0,x1,x2,x3,x4,x5,x6⟩:MoveD)] from lit1 moveR (⟨x0,x1,x2,x3,x4,x5,x6⟩:MoveD)),
  fun x0 x1 x2 x3 x4 x5 x6 l=>sn_ap moveR l (⟨x0,x1,x2,x3,x4,x5,x6⟩:MoveD),
  fun x0 x1 x2 x3 x4 x5 x6 l i=>setAt_sl moveR l i (⟨x0,x1,x2,x3,x4,x5,x6⟩:MoveD),
  fun x0 x1 x2 x3 x4 x5 x6 n=>rep_rp moveR n (⟨x0,x1,x2,x3,x4,x5,x6⟩:MoveD),
  fun x=>rfl,
  fun x0 x1 x2 x3 x4 x5 x6 y0 y1 y2 y3 y4 y5 y6=>vEq_rq (by simp),
  fun l=>shRows_f moveR moveR (fun _=>rfl) l,
  fun l=>Sc_f moveR (fun _=>rfl) l⟩
theorem N_Pool:(∀ (x0:Int) (x1:Int) (x2:List BranchD) (x3:Bool) (x4:Bool) (x5:Int) (x6:Int) (x7:List UInt8) (x8:Int) (x9:Int) (f:Fl) (z:Nat),V.sl f z [[.i .i64 x0,.i .i64 x1,.sl .own 3 (rows branchR x2),.b x3,.b x4,.i .i64 x5,.i .i64 x6,.s x7,.i .i64 x8,.i .i64 x9]]=V.sl f z (rows poolR [(⟨x0,x1,x2,⟨x3,x4,x5,x6,x7,x8,x9⟩⟩:PoolD)])) ∧
 (∀ (x0:Int) (x1:Int) (x2:List BranchD) (x3:Bool) (x4:Bool) (x5:Int) (x6:Int) (x7:List UInt8) (x8:Int) (x9:Int) (l:List PoolD),sn (rows poolR l) [.i .i64 x0,.i .i64 x1,.sl .own 3 (rows branchR x2),.b x3,.b x4,.i .i64 x5,.i .i64 x6,.s x7,.i .i64 x8,.i .i64 x9]=rows poolR (ap l [(⟨x0,x1,x2,⟨x3,x4,x5,x6,x7,x8,x9⟩⟩:PoolD)])) ∧
 (∀ (x0:Int) (x1:Int) (x2:List BranchD) (x3:Bool) (x4:Bool) (x5:Int) (x6:Int) (x7:List UInt8) (x8:Int) (x9:Int) (l:List PoolD) (i:Int),setAt (rows poolR l) i [.i .i64 x0,.i .i64 x1,.sl .own 3 (rows branchR x2),.b x3,.b x4,.i .i64 x5,.i .i64 x6,.s x7,.i .i64 x8,.i .i64 x9]=rows poolR (sl l i (⟨x0,x1,x2,⟨x3,x4,x5,x6,x7,x8,x9⟩⟩:PoolD))) ∧
 (∀ (x0:Int) (x1:Int) (x3:Bool) (x4:Bool) (x5:Int) (x6:Int) (x7:List UInt8) (x8:Int) (x9:Int) (f:Fl) (z:Nat),V.sl f z [[.i .i64 x0,.i .i64 x1,.sl .own 3 [],.b x3,.b x4,.i .i64 x5,.i .i64 x6,.s x7,.i .i64 x8,.i .i64 x9]]=V.sl f z (rows poolR [(⟨x0,x1,[],⟨x3,x4,x5,x6,x7,x8,x9⟩⟩:PoolD)])) ∧
 (∀ (x0:Int) (x1:Int) (x3:Bool) (x4:Bool) (x5:Int) (x6:Int) (x7:List UInt8) (x8:Int) (x9:Int) (l:List PoolD),sn (rows poolR l) [.i .i64 x0,.i .i64 x1,.sl .own 3 [],.b x3,.b x4,.i .i64 x5,.i .i64 x6,.s x7,.i .i64 x8,.i .i64 x9]=rows poolR (ap l [(⟨x0,x1,[],⟨x3,x4,x5,x6,x7,x8,x9⟩⟩:PoolD)])) ∧
 (∀ (x0:Int) (x1:Int) (x3:Bool) (x4:Bool) (x5:Int) (x6:Int) (x7:List UInt8) (x8:Int) (x9:Int) (l:List PoolD) (i:Int),setAt (rows poolR l) i [.i .i64 x0,.i .i64 x1,.sl .own 3 [],.b x3,.b x4,.i .i64 x5,.i .i64 x6,.s x7,.i .i64 x8,.i .i64 x9]=rows poolR (sl l i (⟨x0,x1,[],⟨x3,x4,x5,x6,x7,x8,x9⟩⟩:PoolD))) ∧
 (∀ (x0:Int) (x1:Int) (x3:Bool) (x4:Bool) (x5:Int) (x6:Int) (x7:List UInt8) (x8:Int) (x9:Int) (n:Int),rep_ n ([.i .i64 x0,.i .i64 x1,.sl .own 3 [],.b x3,.b x4,.i .i64 x5,.i .i64 x6,.s x7,.i .i64 x8,.i .i64 x9]:List V)=rows poolR (rp n (⟨x0,x1,[],⟨x3,x4,x5,x6,x7,x8,x9⟩⟩:PoolD))) ∧
 (∀ (x0:Int) (x1:Int) (x2:List BranchD) (x3:Bool) (x4:Bool) (x5:Int) (x6:Int) (x7:List UInt8) (x8:Int) (x9:Int) (f:Fl) (z:Nat),V.sl f z [[.i .i64 x0,.i .i64 x1,.sl .shr 3 (rows branchR x2),.b x3,.b x4,.i .i64 x5,.i .i64 x6,.s x7,.i .i64 x8,.i .i64 x9]]=V.sl f z (rows poolC [(⟨x0,x1,x2,⟨x3,x4,x5,x6,x7,x8,x9⟩⟩:PoolD)])) ∧
 (∀ (x0:Int) (x1:Int) (x2:List BranchD) (x3:Bool) (x4:Bool) (x5:Int) (x6:Int) (x7:List UInt8) (x8:Int) (x9:Int) (l:List PoolD),sn (rows poolC l) [.i .i64 x0,.i .i64 x1,.sl .shr 3 (rows branchR x2),.b x3,.b x4,.i .i64 x5,.i .i64 x6,.s x7,.i .i64 x8,.i .i64 x9]=rows poolC (ap l [(⟨x0,x1,x2,⟨x3,x4,x5,x6,x7,x8,x9⟩⟩:PoolD)])) ∧
 (∀ (x0:Int) (x1:Int) (x3:Bool) (x4:Bool) (x5:Int) (x6:Int) (x7:List UInt8) (x8:Int) (x9:Int) (f:Fl) (z:Nat),V.sl f z [[.i .i64 x0,.i .i64 x1,.sl .shr 3 [],.b x3,.b x4,.i .i64 x5,.i .i64 x6,.s x7,.i .i64 x8,.i .i64 x9]]=V.sl f z (rows poolC [(⟨x0,x1,[],⟨x3,x4,x5,x6,x7,x8,x9⟩⟩:PoolD)])) ∧
 (∀ (x0:Int) (x1:Int) (x3:Bool) (x4:Bool) (x5:Int) (x6:Int) (x7:List UInt8) (x8:Int) (x9:Int) (l:List PoolD),sn (rows poolC l) [.i .i64 x0,.i .i64 x1,.sl .shr 3 [],.b x3,.b x4,.i .i64 x5,.i .i64 x6,.s x7,.i .i64 x8,.i .i64 x9]=rows poolC (ap l [(⟨x0,x1,[],⟨x3,x4,x5,x6,x7,x8,x9⟩⟩:PoolD)])) ∧
 (∀ (x:PoolD),(⟨x.policy,x.minFree,x.branches,⟨x.move.on,x.move.cln,x.move.src,x.move.dst,x.move.path,x.move.gen,x.move.dn⟩⟩:PoolD)=x) ∧
 (∀ (l:List PoolD),shRows (rows poolR l)=rows poolC l) :=
 ⟨fun x0 x1 x2 x3 x4 x5 x6 x7 x8 x9 f z=>congrArg (V.sl f z) (show [([.i .i64 x0,.i .i64 x1,.sl .own 3 (rows branchR x2),.b x3,.b x4,.i .i64 x5,.i .i64 x6,.s x7,.i .i64 x8,.i .i64 x9]:List V)]=rows poolR [(⟨x0,x1,x2,⟨x3,x4,x5,x6,x7,x8,x9⟩⟩:PoolD)] from lit1 poolR (⟨x0,x1,x2,⟨x3,x4,x5,x6,x7,x8,x9⟩⟩:PoolD)),
  fun x0 x1 x2 x3 x4 x5 x6 x7 x8 x9 l=>sn_ap poolR l (⟨x0,x1,x2,⟨x3,x4,x5,x6,x7,x8,x9⟩⟩:PoolD),
  fun x0 x1 x2 x3 x4 x5 x6 x7 x8 x9 l i=>setAt_sl poolR l i (⟨x0,x1,x2,⟨x3,x4,x5,x6,x7,x8,x9⟩⟩:PoolD),
  fun x0 x1 x3 x4 x5 x6 x7 x8 x9 f z=>congrArg (V.sl f z) (show [([.i .i64 x0,.i .i64 x1,.sl .own 3 [],.b x3,.b x4,.i .i64 x5,.i .i64 x6,.s x7,.i .i64 x8,.i .i64 x9]:List V)]=rows poolR [(⟨x0,x1,[],⟨x3,x4,x5,x6,x7,x8,x9⟩⟩:PoolD)] from by rw [(show ([.i .i64 x0,.i .i64 x1,.sl .own 3 [],.b x3,.b x4,.i .i64 x5,.i .i64 x6,.s x7,.i .i64 x8,.i .i64 x9]:List V)=poolR (⟨x0,x1,[],⟨x3,x4,x5,x6,x7,x8,x9⟩⟩:PoolD) from by simp only [poolR,rows_nil])];exact lit1 poolR (⟨x0,x1,[],⟨x3,x4,x5,x6,x7,x8,x9⟩⟩:PoolD)),
  fun x0 x1 x3 x4 x5 x6 x7 x8 x9 l=>by rw [(show ([.i .i64 x0,.i .i64 x1,.sl .own 3 [],.b x3,.b x4,.i .i64 x5,.i .i64 x6,.s x7,.i .i64 x8,.i .i64 x9]:List V)=poolR (⟨x0,x1,[],⟨x3,x4,x5,x6,x7,x8,x9⟩⟩:PoolD) from by simp only [poolR,rows_nil])];exact sn_ap poolR l _,
  fun x0 x1 x3 x4 x5 x6 x7 x8 x9 l i=>by rw [(show ([.i .i64 x0,.i .i64 x1,.sl .own 3 [],.b x3,.b x4,.i .i64 x5,.i .i64 x6,.s x7,.i .i64 x8,.i .i64 x9]:List V)=poolR (⟨x0,x1,[],⟨x3,x4,x5,x6,x7,x8,x9⟩⟩:PoolD) from by simp only [poolR,rows_nil])];exact setAt_sl poolR l i (⟨x0,x1,[],⟨x3,x4,x5,x6,x7,x8,x9⟩⟩:PoolD),
  fun x0 x1 x3 x4 x5 x6 x7 x8 x9 n=>by rw [(show ([.i .i64 x0,.i .i64 x1,.sl .own 3 [],.b x3,.b x4,.i .i64 x5,.i .i64 x6,.s x7,.i .i64 x8,.i .i64 x9]:List V)=poolR (⟨x0,x1,[],⟨x3,x4,x5,x6,x7,x8,x9⟩⟩:PoolD) from by simp only [poolR,rows_nil])];exact rep_rp poolR n (⟨x0,x1,[],⟨x3,x4,x5,x6,x7,x8,x9⟩⟩:PoolD),
  fun x0 x1 x2 x3 x4 x5 x6 x7 x8 x9 f z=>congrArg (V.sl f z) (show [([.i .i64 x0,.i .i64 x1,.sl .shr 3 (rows branchR x2),.b x3,.b x4,.i .i64 x5,.i .i64 x6,.s x7,.i .i64 x8,.i .i64 x9]:List V)]=rows poolC [(⟨x0,x1,x2,⟨x3,x4,x5,x6,x7,x8,x9⟩⟩:PoolD)] from lit1 poolC (⟨x0,x1,x2,⟨x3,x4,x5,x6,x7,x8,x9⟩⟩:PoolD)),
  fun x0 x1 x2 x3 x4 x5 x6 x7 x8 x9 l=>sn_ap poolC l (⟨x0,x1,x2,⟨x3,x4,x5,x6,x7,x8,x9⟩⟩:PoolD),
  fun x0 x1 x3 x4 x5 x6 x7 x8 x9 f z=>congrArg (V.sl f z) (show [([.i .i64 x0,.i .i64 x1,.sl .shr 3 [],.b x3,.b x4,.i .i64 x5,.i .i64 x6,.s x7,.i .i64 x8,.i .i64 x9]:List V)]=rows poolC [(⟨x0,x1,[],⟨x3,x4,x5,x6,x7,x8,x9⟩⟩:PoolD)] from by rw [(show ([.i .i64 x0,.i .i64 x1,.sl .shr 3 [],.b x3,.b x4,.i .i64 x5,.i .i64 x6,.s x7,.i .i64 x8,.i .i64 x9]:List V)=poolC (⟨x0,x1,[],⟨x3,x4,x5,x6,x7,x8,x9⟩⟩:PoolD) from by simp only [poolC,rows_nil])];exact lit1 poolC (⟨x0,x1,[],⟨x3,x4,x5,x6,x7,x8,x9⟩⟩:PoolD)),
  fun x0 x1 x3 x4 x5 x6 x7 x8 x9 l=>by rw [(show ([.i .i64 x0,.i .i64 x1,.sl .shr 3 [],.b x3,.b x4,.i .i64 x5,.i .i64 x6,.s x7,.i .i64 x8,.i .i64 x9]:List V)=poolC (⟨x0,x1,[],⟨x3,x4,x5,x6,x7,x8,x9⟩⟩:PoolD) from by simp only [poolC,rows_nil])];exact sn_ap poolC l _,
  fun x=>rfl,
  fun l=>shRows_f poolR poolC (fun _=>rfl) l⟩
theorem N_Step:(∀ (x0:Int) (x1:List NodeD) (x2:List (List UInt8)) (f:Fl) (z:Nat),V.sl f z [[.i .i64 x0,.sl .own 5 (rows nodeR x1),.sl .own 1 (rows strR x2)]]=V.sl f z (rows stepR [(⟨x0,⟨x1,x2⟩⟩:StepD)])) ∧
 (∀ (x0:Int) (x1:List NodeD) (x2:List (List UInt8)) (l:List StepD),sn (rows stepR l) [.i .i64 x0,.sl .own 5 (rows nodeR x1),.sl .own 1 (rows strR x2)]=rows stepR (ap l [(⟨x0,⟨x1,x2⟩⟩:StepD)])) ∧
 (∀ (x0:Int) (x1:List NodeD) (x2:List (List UInt8)) (l:List StepD) (i:Int),setAt (rows stepR l) i [.i .i64 x0,.sl .own 5 (rows nodeR x1),.sl .own 1 (rows strR x2)]=rows stepR (sl l i (⟨x0,⟨x1,x2⟩⟩:StepD))) ∧
 (∀ (x0:Int) (x2:List (List UInt8)) (f:Fl) (z:Nat),V.sl f z [[.i .i64 x0,.sl .own 5 [],.sl .own 1 (rows strR x2)]]=V.sl f z (rows stepR [(⟨x0,⟨[],x2⟩⟩:StepD)])) ∧
 (∀ (x0:Int) (x2:List (List UInt8)) (l:List StepD),sn (rows stepR l) [.i .i64 x0,.sl .own 5 [],.sl .own 1 (rows strR x2)]=rows stepR (ap l [(⟨x0,⟨[],x2⟩⟩:StepD)])) ∧
 (∀ (x0:Int) (x2:List (List UInt8)) (l:List StepD) (i:Int),setAt (rows stepR l) i [.i .i64 x0,.sl .own 5 [],.sl .own 1 (rows strR x2)]=rows stepR (sl l i (⟨x0,⟨[],x2⟩⟩:StepD))) ∧
 (∀ (x0:Int) (x1:List NodeD) (f:Fl) (z:Nat),V.sl f z [[.i .i64 x0,.sl .own 5 (rows nodeR x1),.sl .own 1 []]]=V.sl f z (rows stepR [(⟨x0,⟨x1,[]⟩⟩:StepD)])) ∧
 (∀ (x0:Int) (x1:List NodeD) (l:List StepD),sn (rows stepR l) [.i .i64 x0,.sl .own 5 (rows nodeR x1),.sl .own 1 []]=rows stepR (ap l [(⟨x0,⟨x1,[]⟩⟩:StepD)])) ∧
 (∀ (x0:Int) (x1:List NodeD) (l:List StepD) (i:Int),setAt (rows stepR l) i [.i .i64 x0,.sl .own 5 (rows nodeR x1),.sl .own 1 []]=rows stepR (sl l i (⟨x0,⟨x1,[]⟩⟩:StepD))) ∧
 (∀ (x0:Int) (f:Fl) (z:Nat),V.sl f z [[.i .i64 x0,.sl .own 5 [],.sl .own 1 []]]=V.sl f z (rows stepR [(⟨x0,⟨[],[]⟩⟩:StepD)])) ∧
 (∀ (x0:Int) (l:List StepD),sn (rows stepR l) [.i .i64 x0,.sl .own 5 [],.sl .own 1 []]=rows stepR (ap l [(⟨x0,⟨[],[]⟩⟩:StepD)])) ∧
 (∀ (x0:Int) (l:List StepD) (i:Int),setAt (rows stepR l) i [.i .i64 x0,.sl .own 5 [],.sl .own 1 []]=rows stepR (sl l i (⟨x0,⟨[],[]⟩⟩:StepD))) ∧
 (∀ (x0:Int) (n:Int),rep_ n ([.i .i64 x0,.sl .own 5 [],.sl .own 1 []]:List V)=rows stepR (rp n (⟨x0,⟨[],[]⟩⟩:StepD))) ∧
 (∀ (x0:Int) (x1:List NodeD) (x2:List (List UInt8)) (f:Fl) (z:Nat),V.sl f z [[.i .i64 x0,.sl .shr 5 (rows nodeR x1),.sl .shr 1 (rows strR x2)]]=V.sl f z (rows stepC [(⟨x0,⟨x1,x2⟩⟩:StepD)])) ∧
 (∀ (x0:Int) (x1:List NodeD) (x2:List (List UInt8)) (l:List StepD),sn (rows stepC l) [.i .i64 x0,.sl .shr 5 (rows nodeR x1),.sl .shr 1 (rows strR x2)]=rows stepC (ap l [(⟨x0,⟨x1,x2⟩⟩:StepD)])) ∧
 (∀ (x0:Int) (x2:List (List UInt8)) (f:Fl) (z:Nat),V.sl f z [[.i .i64 x0,.sl .shr 5 [],.sl .shr 1 (rows strR x2)]]=V.sl f z (rows stepC [(⟨x0,⟨[],x2⟩⟩:StepD)])) ∧
 (∀ (x0:Int) (x2:List (List UInt8)) (l:List StepD),sn (rows stepC l) [.i .i64 x0,.sl .shr 5 [],.sl .shr 1 (rows strR x2)]=rows stepC (ap l [(⟨x0,⟨[],x2⟩⟩:StepD)])) ∧
 (∀ (x0:Int) (x1:List NodeD) (f:Fl) (z:Nat),V.sl f z [[.i .i64 x0,.sl .shr 5 (rows nodeR x1),.sl .shr 1 []]]=V.sl f z (rows stepC [(⟨x0,⟨x1,[]⟩⟩:StepD)])) ∧
 (∀ (x0:Int) (x1:List NodeD) (l:List StepD),sn (rows stepC l) [.i .i64 x0,.sl .shr 5 (rows nodeR x1),.sl .shr 1 []]=rows stepC (ap l [(⟨x0,⟨x1,[]⟩⟩:StepD)])) ∧
 (∀ (x0:Int) (f:Fl) (z:Nat),V.sl f z [[.i .i64 x0,.sl .shr 5 [],.sl .shr 1 []]]=V.sl f z (rows stepC [(⟨x0,⟨[],[]⟩⟩:StepD)])) ∧
 (∀ (x0:Int) (l:List StepD),sn (rows stepC l) [.i .i64 x0,.sl .shr 5 [],.sl .shr 1 []]=rows stepC (ap l [(⟨x0,⟨[],[]⟩⟩:StepD)])) ∧
 (∀ (x0_0:Int) (x1_0:List NodeD) (x2_0:List (List UInt8)) (x0_1:Int) (x1_1:List NodeD) (x2_1:List (List UInt8)) (f:Fl) (z:Nat),V.sl f z [([.i .i64 x0_0,.sl .own 5 (rows nodeR x1_0),.sl .own 1 (rows strR x2_0)]:List V),([.i .i64 x0_1,.sl .own 5 (rows nodeR x1_1),.sl .own 1 (rows strR x2_1)]:List V)]=V.sl f z (rows stepR [(⟨x0_0,⟨x1_0,x2_0⟩⟩:StepD),(⟨x0_1,⟨x1_1,x2_1⟩⟩:StepD)])) ∧
 (∀ (x0_0:Int) (x1_0:List NodeD) (x2_0:List (List UInt8)) (x0_1:Int) (x1_1:List NodeD) (x2_1:List (List UInt8)) (q:List (List V)),app q [([.i .i64 x0_0,.sl .own 5 (rows nodeR x1_0),.sl .own 1 (rows strR x2_0)]:List V),([.i .i64 x0_1,.sl .own 5 (rows nodeR x1_1),.sl .own 1 (rows strR x2_1)]:List V)]=app q (rows stepR [(⟨x0_0,⟨x1_0,x2_0⟩⟩:StepD),(⟨x0_1,⟨x1_1,x2_1⟩⟩:StepD)])) ∧
 (∀ (x0_0:Int) (x1_0:List NodeD) (x2_0:List (List UInt8)) (x0_1:Int) (x1_1:List NodeD) (x2_1:List (List UInt8)) (q:List (List V)),app [([.i .i64 x0_0,.sl .own 5 (rows nodeR x1_0),.sl .own 1 (rows strR x2_0)]:List V),([.i .i64 x0_1,.sl .own 5 (rows nodeR x1_1),.sl .own 1 (rows strR x2_1)]:List V)] q=app (rows stepR [(⟨x0_0,⟨x1_0,x2_0⟩⟩:StepD),(⟨x0_1,⟨x1_1,x2_1⟩⟩:StepD)]) q) ∧
 (∀ (x:StepD),(⟨x.branch,⟨x.fs.nodes,x.fs.data⟩⟩:StepD)=x) ∧
 (∀ (l:List StepD),shRows (rows stepR l)=rows stepC l) :=
 ⟨fun x0 x1 x2 f z=>congrArg (V.sl f z) (show [([.i .i64 x0,.sl .own 5 (rows nodeR x1),.sl .own 1 (rows strR x2)]:List V)]=rows stepR [(⟨x0,⟨x1,x2⟩⟩:StepD)] from lit1 stepR (⟨x0,⟨x1,x2⟩⟩:StepD)),
  fun x0 x1 x2 l=>sn_ap stepR l (⟨x0,⟨x1,x2⟩⟩:StepD),
  fun x0 x1 x2 l i=>setAt_sl stepR l i (⟨x0,⟨x1,x2⟩⟩:StepD),
  fun x0 x2 f z=>congrArg (V.sl f z) (show [([.i .i64 x0,.sl .own 5 [],.sl .own 1 (rows strR x2)]:List V)]=rows stepR [(⟨x0,⟨[],x2⟩⟩:StepD)] from by rw [(show ([.i .i64 x0,.sl .own 5 [],.sl .own 1 (rows strR x2)]:List V)=stepR (⟨x0,⟨[],x2⟩⟩:StepD) from by simp only [stepR,rows_nil])];exact lit1 stepR (⟨x0,⟨[],x2⟩⟩:StepD)),
  fun x0 x2 l=>by rw [(show ([.i .i64 x0,.sl .own 5 [],.sl .own 1 (rows strR x2)]:List V)=stepR (⟨x0,⟨[],x2⟩⟩:StepD) from by simp only [stepR,rows_nil])];exact sn_ap stepR l _,
  fun x0 x2 l i=>by rw [(show ([.i .i64 x0,.sl .own 5 [],.sl .own 1 (rows strR x2)]:List V)=stepR (⟨x0,⟨[],x2⟩⟩:StepD) from by simp only [stepR,rows_nil])];exact setAt_sl stepR l i (⟨x0,⟨[],x2⟩⟩:StepD),
  fun x0 x1 f z=>congrArg (V.sl f z) (show [([.i .i64 x0,.sl .own 5 (rows nodeR x1),.sl .own 1 []]:List V)]=rows stepR [(⟨x0,⟨x1,[]⟩⟩:StepD)] from by rw [(show ([.i .i64 x0,.sl .own 5 (rows nodeR x1),.sl .own 1 []]:List V)=stepR (⟨x0,⟨x1,[]⟩⟩:StepD) from by simp only [stepR,rows_nil])];exact lit1 stepR (⟨x0,⟨x1,[]⟩⟩:StepD)),
  fun x0 x1 l=>by rw [(show ([.i .i64 x0,.sl .own 5 (rows nodeR x1),.sl .own 1 []]:List V)=stepR (⟨x0,⟨x1,[]⟩⟩:StepD) from by simp only [stepR,rows_nil])];exact sn_ap stepR l _,
  fun x0 x1 l i=>by rw [(show ([.i .i64 x0,.sl .own 5 (rows nodeR x1),.sl .own 1 []]:List V)=stepR (⟨x0,⟨x1,[]⟩⟩:StepD) from by simp only [stepR,rows_nil])];exact setAt_sl stepR l i (⟨x0,⟨x1,[]⟩⟩:StepD),
  fun x0 f z=>congrArg (V.sl f z) (show [([.i .i64 x0,.sl .own 5 [],.sl .own 1 []]:List V)]=rows stepR [(⟨x0,⟨[],[]⟩⟩:StepD)] from by rw [(show ([.i .i64 x0,.sl .own 5 [],.sl .own 1 []]:List V)=stepR (⟨x0,⟨[],[]⟩⟩:StepD) from by simp only [stepR,rows_nil])];exact lit1 stepR (⟨x0,⟨[],[]⟩⟩:StepD)),
  fun x0 l=>by rw [(show ([.i .i64 x0,.sl .own 5 [],.sl .own 1 []]:List V)=stepR (⟨x0,⟨[],[]⟩⟩:StepD) from by simp only [stepR,rows_nil])];exact sn_ap stepR l _,
  fun x0 l i=>by rw [(show ([.i .i64 x0,.sl .own 5 [],.sl .own 1 []]:List V)=stepR (⟨x0,⟨[],[]⟩⟩:StepD) from by simp only [stepR,rows_nil])];exact setAt_sl stepR l i (⟨x0,⟨[],[]⟩⟩:StepD),
  fun x0 n=>by rw [(show ([.i .i64 x0,.sl .own 5 [],.sl .own 1 []]:List V)=stepR (⟨x0,⟨[],[]⟩⟩:StepD) from by simp only [stepR,rows_nil])];exact rep_rp stepR n (⟨x0,⟨[],[]⟩⟩:StepD),
  fun x0 x1 x2 f z=>congrArg (V.sl f z) (show [([.i .i64 x0,.sl .shr 5 (rows nodeR x1),.sl .shr 1 (rows strR x2)]:List V)]=rows stepC [(⟨x0,⟨x1,x2⟩⟩:StepD)] from lit1 stepC (⟨x0,⟨x1,x2⟩⟩:StepD)),
  fun x0 x1 x2 l=>sn_ap stepC l (⟨x0,⟨x1,x2⟩⟩:StepD),
  fun x0 x2 f z=>congrArg (V.sl f z) (show [([.i .i64 x0,.sl .shr 5 [],.sl .shr 1 (rows strR x2)]:List V)]=rows stepC [(⟨x0,⟨[],x2⟩⟩:StepD)] from by rw [(show ([.i .i64 x0,.sl .shr 5 [],.sl .shr 1 (rows strR x2)]:List V)=stepC (⟨x0,⟨[],x2⟩⟩:StepD) from by simp only [stepC,rows_nil])];exact lit1 stepC (⟨x0,⟨[],x2⟩⟩:StepD)),
  fun x0 x2 l=>by rw [(show ([.i .i64 x0,.sl .shr 5 [],.sl .shr 1 (rows strR x2)]:List V)=stepC (⟨x0,⟨[],x2⟩⟩:StepD) from by simp only [stepC,rows_nil])];exact sn_ap stepC l _,
  fun x0 x1 f z=>congrArg (V.sl f z) (show [([.i .i64 x0,.sl .shr 5 (rows nodeR x1),.sl .shr 1 []]:List V)]=rows stepC [(⟨x0,⟨x1,[]⟩⟩:StepD)] from by rw [(show ([.i .i64 x0,.sl .shr 5 (rows nodeR x1),.sl .shr 1 []]:List V)=stepC (⟨x0,⟨x1,[]⟩⟩:StepD) from by simp only [stepC,rows_nil])];exact lit1 stepC (⟨x0,⟨x1,[]⟩⟩:StepD)),
  fun x0 x1 l=>by rw [(show ([.i .i64 x0,.sl .shr 5 (rows nodeR x1),.sl .shr 1 []]:List V)=stepC (⟨x0,⟨x1,[]⟩⟩:StepD) from by simp only [stepC,rows_nil])];exact sn_ap stepC l _,
  fun x0 f z=>congrArg (V.sl f z) (show [([.i .i64 x0,.sl .shr 5 [],.sl .shr 1 []]:List V)]=rows stepC [(⟨x0,⟨[],[]⟩⟩:StepD)] from by rw [(show ([.i .i64 x0,.sl .shr 5 [],.sl .shr 1 []]:List V)=stepC (⟨x0,⟨[],[]⟩⟩:StepD) from by simp only [stepC,rows_nil])];exact lit1 stepC (⟨x0,⟨[],[]⟩⟩:StepD)),
  fun x0 l=>by rw [(show ([.i .i64 x0,.sl .shr 5 [],.sl .shr 1 []]:List V)=stepC (⟨x0,⟨[],[]⟩⟩:StepD) from by simp only [stepC,rows_nil])];exact sn_ap stepC l _,
  fun x0_0 x1_0 x2_0 x0_1 x1_1 x2_1 f z=>congrArg (V.sl f z) (show [([.i .i64 x0_0,.sl .own 5 (rows nodeR x1_0),.sl .own 1 (rows strR x2_0)]:List V),([.i .i64 x0_1,.sl .own 5 (rows nodeR x1_1),.sl .own 1 (rows strR x2_1)]:List V)]=rows stepR [(⟨x0_0,⟨x1_0,x2_0⟩⟩:StepD),(⟨x0_1,⟨x1_1,x2_1⟩⟩:StepD)] from lit2 stepR (⟨x0_0,⟨x1_0,x2_0⟩⟩:StepD) (⟨x0_1,⟨x1_1,x2_1⟩⟩:StepD)),
  fun x0_0 x1_0 x2_0 x0_1 x1_1 x2_1 q=>congrArg (app q) (show [([.i .i64 x0_0,.sl .own 5 (rows nodeR x1_0),.sl .own 1 (rows strR x2_0)]:List V),([.i .i64 x0_1,.sl .own 5 (rows nodeR x1_1),.sl .own 1 (rows strR x2_1)]:List V)]=rows stepR [(⟨x0_0,⟨x1_0,x2_0⟩⟩:StepD),(⟨x0_1,⟨x1_1,x2_1⟩⟩:StepD)] from lit2 stepR (⟨x0_0,⟨x1_0,x2_0⟩⟩:StepD) (⟨x0_1,⟨x1_1,x2_1⟩⟩:StepD)),
  fun x0_0 x1_0 x2_0 x0_1 x1_1 x2_1 q=>congrArg (fun y=>app y q) (show [([.i .i64 x0_0,.sl .own 5 (rows nodeR x1_0),.sl .own 1 (rows strR x2_0)]:List V),([.i .i64 x0_1,.sl .own 5 (rows nodeR x1_1),.sl .own 1 (rows strR x2_1)]:List V)]=rows stepR [(⟨x0_0,⟨x1_0,x2_0⟩⟩:StepD),(⟨x0_1,⟨x1_1,x2_1⟩⟩:StepD)] from lit2 stepR (⟨x0_0,⟨x1_0,x2_0⟩⟩:StepD) (⟨x0_1,⟨x1_1,x2_1⟩⟩:StepD)),
  fun x=>rfl,
  fun l=>shRows_f stepR stepC (fun _=>rfl) l⟩
theorem N_Op:(∀ (x0:Int) (x1:List UInt8) (x2:List UInt8) (x3:Int) (x4:List UInt8) (x5:Int) (f:Fl) (z:Nat),V.sl f z [[.i .i64 x0,.s x1,.s x2,.i .i64 x3,.s x4,.i .i64 x5]]=V.sl f z (rows opR [(⟨x0,x1,x2,x3,x4,x5⟩:OpD)])) ∧
 (∀ (x0:Int) (x1:List UInt8) (x2:List UInt8) (x3:Int) (x4:List UInt8) (x5:Int) (l:List OpD),sn (rows opR l) [.i .i64 x0,.s x1,.s x2,.i .i64 x3,.s x4,.i .i64 x5]=rows opR (ap l [(⟨x0,x1,x2,x3,x4,x5⟩:OpD)])) ∧
 (∀ (x0:Int) (x1:List UInt8) (x2:List UInt8) (x3:Int) (x4:List UInt8) (x5:Int) (l:List OpD) (i:Int),setAt (rows opR l) i [.i .i64 x0,.s x1,.s x2,.i .i64 x3,.s x4,.i .i64 x5]=rows opR (sl l i (⟨x0,x1,x2,x3,x4,x5⟩:OpD))) ∧
 (∀ (x0:Int) (x1:List UInt8) (x2:List UInt8) (x3:Int) (x4:List UInt8) (x5:Int) (n:Int),rep_ n ([.i .i64 x0,.s x1,.s x2,.i .i64 x3,.s x4,.i .i64 x5]:List V)=rows opR (rp n (⟨x0,x1,x2,x3,x4,x5⟩:OpD))) ∧
 (∀ (x:OpD),(⟨x.kind,x.path,x.dst,x.pos,x.data,x.time⟩:OpD)=x) ∧
 (∀ (x0:Int) (x1:List UInt8) (x2:List UInt8) (x3:Int) (x4:List UInt8) (x5:Int) (y0:Int) (y1:List UInt8) (y2:List UInt8) (y3:Int) (y4:List UInt8) (y5:Int),vEq [.i .i64 x0,.s x1,.s x2,.i .i64 x3,.s x4,.i .i64 x5] [.i .i64 y0,.s y1,.s y2,.i .i64 y3,.s y4,.i .i64 y5]=rq (⟨x0,x1,x2,x3,x4,x5⟩:OpD) (⟨y0,y1,y2,y3,y4,y5⟩:OpD)) ∧
 (∀ (l:List OpD),shRows (rows opR l)=rows opR l) ∧
 (∀ (l:List OpD),Sc (rows opR l)=True) :=
 ⟨fun x0 x1 x2 x3 x4 x5 f z=>congrArg (V.sl f z) (show [([.i .i64 x0,.s x1,.s x2,.i .i64 x3,.s x4,.i .i64 x5]:List V)]=rows opR [(⟨x0,x1,x2,x3,x4,x5⟩:OpD)] from lit1 opR (⟨x0,x1,x2,x3,x4,x5⟩:OpD)),
  fun x0 x1 x2 x3 x4 x5 l=>sn_ap opR l (⟨x0,x1,x2,x3,x4,x5⟩:OpD),
  fun x0 x1 x2 x3 x4 x5 l i=>setAt_sl opR l i (⟨x0,x1,x2,x3,x4,x5⟩:OpD),
  fun x0 x1 x2 x3 x4 x5 n=>rep_rp opR n (⟨x0,x1,x2,x3,x4,x5⟩:OpD),
  fun x=>rfl,
  fun x0 x1 x2 x3 x4 x5 y0 y1 y2 y3 y4 y5=>vEq_rq (by simp),
  fun l=>shRows_f opR opR (fun _=>rfl) l,
  fun l=>Sc_f opR (fun _=>rfl) l⟩
theorem N_Item:(∀ (x0:List UInt8) (x1:Int) (x2:List UInt8) (x3:Int) (f:Fl) (z:Nat),V.sl f z [[.s x0,.i .i64 x1,.s x2,.i .i64 x3]]=V.sl f z (rows itemR [(⟨x0,x1,x2,x3⟩:ItemD)])) ∧
 (∀ (x0:List UInt8) (x1:Int) (x2:List UInt8) (x3:Int) (l:List ItemD),sn (rows itemR l) [.s x0,.i .i64 x1,.s x2,.i .i64 x3]=rows itemR (ap l [(⟨x0,x1,x2,x3⟩:ItemD)])) ∧
 (∀ (x0:List UInt8) (x1:Int) (x2:List UInt8) (x3:Int) (l:List ItemD) (i:Int),setAt (rows itemR l) i [.s x0,.i .i64 x1,.s x2,.i .i64 x3]=rows itemR (sl l i (⟨x0,x1,x2,x3⟩:ItemD))) ∧
 (∀ (x0:List UInt8) (x1:Int) (x2:List UInt8) (x3:Int) (n:Int),rep_ n ([.s x0,.i .i64 x1,.s x2,.i .i64 x3]:List V)=rows itemR (rp n (⟨x0,x1,x2,x3⟩:ItemD))) ∧
 (∀ (x:ItemD),(⟨x.path,x.kind,x.data,x.time⟩:ItemD)=x) ∧
 (∀ (x0:List UInt8) (x1:Int) (x2:List UInt8) (x3:Int) (y0:List UInt8) (y1:Int) (y2:List UInt8) (y3:Int),vEq [.s x0,.i .i64 x1,.s x2,.i .i64 x3] [.s y0,.i .i64 y1,.s y2,.i .i64 y3]=rq (⟨x0,x1,x2,x3⟩:ItemD) (⟨y0,y1,y2,y3⟩:ItemD)) ∧
 (∀ (l:List ItemD),shRows (rows itemR l)=rows itemR l) ∧
 (∀ (l:List ItemD),Sc (rows itemR l)=True) :=
 ⟨fun x0 x1 x2 x3 f z=>congrArg (V.sl f z) (show [([.s x0,.i .i64 x1,.s x2,.i .i64 x3]:List V)]=rows itemR [(⟨x0,x1,x2,x3⟩:ItemD)] from lit1 itemR (⟨x0,x1,x2,x3⟩:ItemD)),
  fun x0 x1 x2 x3 l=>sn_ap itemR l (⟨x0,x1,x2,x3⟩:ItemD),
  fun x0 x1 x2 x3 l i=>setAt_sl itemR l i (⟨x0,x1,x2,x3⟩:ItemD),
  fun x0 x1 x2 x3 n=>rep_rp itemR n (⟨x0,x1,x2,x3⟩:ItemD),
  fun x=>rfl,
  fun x0 x1 x2 x3 y0 y1 y2 y3=>vEq_rq (by simp),
  fun l=>shRows_f itemR itemR (fun _=>rfl) l,
  fun l=>Sc_f itemR (fun _=>rfl) l⟩
theorem N_Tree:(∀ (x0:List ItemD) (f:Fl) (z:Nat),V.sl f z [[.sl .own 4 (rows itemR x0)]]=V.sl f z (rows treeR [(⟨x0⟩:TreeD)])) ∧
 (∀ (x0:List ItemD) (l:List TreeD),sn (rows treeR l) [.sl .own 4 (rows itemR x0)]=rows treeR (ap l [(⟨x0⟩:TreeD)])) ∧
 (∀ (x0:List ItemD) (l:List TreeD) (i:Int),setAt (rows treeR l) i [.sl .own 4 (rows itemR x0)]=rows treeR (sl l i (⟨x0⟩:TreeD))) ∧
 (∀ (f:Fl) (z:Nat),V.sl f z [[.sl .own 4 []]]=V.sl f z (rows treeR [(⟨[]⟩:TreeD)])) ∧
 (∀ (l:List TreeD),sn (rows treeR l) [.sl .own 4 []]=rows treeR (ap l [(⟨[]⟩:TreeD)])) ∧
 (∀ (l:List TreeD) (i:Int),setAt (rows treeR l) i [.sl .own 4 []]=rows treeR (sl l i (⟨[]⟩:TreeD))) ∧
 (∀ (n:Int),rep_ n ([.sl .own 4 []]:List V)=rows treeR (rp n (⟨[]⟩:TreeD))) ∧
 (∀ (x0:List ItemD) (f:Fl) (z:Nat),V.sl f z [[.sl .shr 4 (rows itemR x0)]]=V.sl f z (rows treeC [(⟨x0⟩:TreeD)])) ∧
 (∀ (x0:List ItemD) (l:List TreeD),sn (rows treeC l) [.sl .shr 4 (rows itemR x0)]=rows treeC (ap l [(⟨x0⟩:TreeD)])) ∧
 (∀ (f:Fl) (z:Nat),V.sl f z [[.sl .shr 4 []]]=V.sl f z (rows treeC [(⟨[]⟩:TreeD)])) ∧
 (∀ (l:List TreeD),sn (rows treeC l) [.sl .shr 4 []]=rows treeC (ap l [(⟨[]⟩:TreeD)])) ∧
 (∀ (x:TreeD),(⟨x.items⟩:TreeD)=x) ∧
 (∀ (l:List TreeD),shRows (rows treeR l)=rows treeC l) :=
 ⟨fun x0 f z=>congrArg (V.sl f z) (show [([.sl .own 4 (rows itemR x0)]:List V)]=rows treeR [(⟨x0⟩:TreeD)] from lit1 treeR (⟨x0⟩:TreeD)),
  fun x0 l=>sn_ap treeR l (⟨x0⟩:TreeD),
  fun x0 l i=>setAt_sl treeR l i (⟨x0⟩:TreeD),
  fun f z=>congrArg (V.sl f z) (show [([.sl .own 4 []]:List V)]=rows treeR [(⟨[]⟩:TreeD)] from by rw [(show ([.sl .own 4 []]:List V)=treeR (⟨[]⟩:TreeD) from by simp only [treeR,rows_nil])];exact lit1 treeR (⟨[]⟩:TreeD)),
  fun l=>by rw [(show ([.sl .own 4 []]:List V)=treeR (⟨[]⟩:TreeD) from by simp only [treeR,rows_nil])];exact sn_ap treeR l _,
  fun l i=>by rw [(show ([.sl .own 4 []]:List V)=treeR (⟨[]⟩:TreeD) from by simp only [treeR,rows_nil])];exact setAt_sl treeR l i (⟨[]⟩:TreeD),
  fun n=>by rw [(show ([.sl .own 4 []]:List V)=treeR (⟨[]⟩:TreeD) from by simp only [treeR,rows_nil])];exact rep_rp treeR n (⟨[]⟩:TreeD),
  fun x0 f z=>congrArg (V.sl f z) (show [([.sl .shr 4 (rows itemR x0)]:List V)]=rows treeC [(⟨x0⟩:TreeD)] from lit1 treeC (⟨x0⟩:TreeD)),
  fun x0 l=>sn_ap treeC l (⟨x0⟩:TreeD),
  fun f z=>congrArg (V.sl f z) (show [([.sl .shr 4 []]:List V)]=rows treeC [(⟨[]⟩:TreeD)] from by rw [(show ([.sl .shr 4 []]:List V)=treeC (⟨[]⟩:TreeD) from by simp only [treeC,rows_nil])];exact lit1 treeC (⟨[]⟩:TreeD)),
  fun l=>by rw [(show ([.sl .shr 4 []]:List V)=treeC (⟨[]⟩:TreeD) from by simp only [treeC,rows_nil])];exact sn_ap treeC l _,
  fun x=>rfl,
  fun l=>shRows_f treeR treeC (fun _=>rfl) l⟩
theorem N_Entry:(∀ (x0:List UInt8) (x1:Int) (f:Fl) (z:Nat),V.sl f z [[.s x0,.i .i64 x1]]=V.sl f z (rows entryR [(⟨x0,x1⟩:EntryD)])) ∧
 (∀ (x0:List UInt8) (x1:Int) (l:List EntryD),sn (rows entryR l) [.s x0,.i .i64 x1]=rows entryR (ap l [(⟨x0,x1⟩:EntryD)])) ∧
 (∀ (x0:List UInt8) (x1:Int) (l:List EntryD) (i:Int),setAt (rows entryR l) i [.s x0,.i .i64 x1]=rows entryR (sl l i (⟨x0,x1⟩:EntryD))) ∧
 (∀ (x0:List UInt8) (x1:Int) (n:Int),rep_ n ([.s x0,.i .i64 x1]:List V)=rows entryR (rp n (⟨x0,x1⟩:EntryD))) ∧
 (∀ (x:EntryD),(⟨x.name,x.node⟩:EntryD)=x) ∧
 (∀ (x0:List UInt8) (x1:Int) (y0:List UInt8) (y1:Int),vEq [.s x0,.i .i64 x1] [.s y0,.i .i64 y1]=rq (⟨x0,x1⟩:EntryD) (⟨y0,y1⟩:EntryD)) ∧
 (∀ (l:List EntryD),shRows (rows entryR l)=rows entryR l) ∧
 (∀ (l:List EntryD),Sc (rows entryR l)=True) :=
 ⟨fun x0 x1 f z=>congrArg (V.sl f z) (show [([.s x0,.i .i64 x1]:List V)]=rows entryR [(⟨x0,x1⟩:EntryD)] from lit1 entryR (⟨x0,x1⟩:EntryD)),
  fun x0 x1 l=>sn_ap entryR l (⟨x0,x1⟩:EntryD),
  fun x0 x1 l i=>setAt_sl entryR l i (⟨x0,x1⟩:EntryD),
  fun x0 x1 n=>rep_rp entryR n (⟨x0,x1⟩:EntryD),
  fun x=>rfl,
  fun x0 x1 y0 y1=>vEq_rq (by simp),
  fun l=>shRows_f entryR entryR (fun _=>rfl) l,
  fun l=>Sc_f entryR (fun _=>rfl) l⟩
end Go.Ar
