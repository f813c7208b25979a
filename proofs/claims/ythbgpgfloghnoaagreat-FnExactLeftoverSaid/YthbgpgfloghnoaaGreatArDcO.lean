import Derived.Test.YthbgpgfloghnoaaGreatArDcN
namespace Go.Ar
open Go.Proofs
set_option linter.unusedVariables false
set_option linter.unusedSimpArgs false
set_option maxRecDepth 20000
set_option maxHeartbeats 40000000
theorem N_Branch:(∀ (x0:Int) (x1:List NodeD) (x2:List (List UInt8)) (f:Fl) (z:Nat),V.sl f z [[.i .i64 x0,.sl .own 5 (rows nodeR x1),.sl .own 1 (rows strR x2)]]=V.sl f z (rows branchR [(⟨x0,⟨x1,x2⟩⟩:BranchD)])) ∧
 (∀ (x0:Int) (x1:List NodeD) (x2:List (List UInt8)) (l:List BranchD),sn (rows branchR l) [.i .i64 x0,.sl .own 5 (rows nodeR x1),.sl .own 1 (rows strR x2)]=rows branchR (ap l [(⟨x0,⟨x1,x2⟩⟩:BranchD)])) ∧
 (∀ (x0:Int) (x1:List NodeD) (x2:List (List UInt8)) (l:List BranchD) (i:Int),setAt (rows branchR l) i [.i .i64 x0,.sl .own 5 (rows nodeR x1),.sl .own 1 (rows strR x2)]=rows branchR (sl l i (⟨x0,⟨x1,x2⟩⟩:BranchD))) ∧
 (∀ (x0:Int) (x2:List (List UInt8)) (f:Fl) (z:Nat),V.sl f z [[.i .i64 x0,.sl .own 5 [],.sl .own 1 (rows strR x2)]]=V.sl f z (rows branchR [(⟨x0,⟨[],x2⟩⟩:BranchD)])) ∧
 (∀ (x0:Int) (x2:List (List UInt8)) (l:List BranchD),sn (rows branchR l) [.i .i64 x0,.sl .own 5 [],.sl .own 1 (rows strR x2)]=rows branchR (ap l [(⟨x0,⟨[],x2⟩⟩:BranchD)])) ∧
 (∀ (x0:Int) (x2:List (List UInt8)) (l:List BranchD) (i:Int),setAt (rows branchR l) i [.i .i64 x0,.sl .own 5 [],.sl .own 1 (rows strR x2)]=rows branchR (sl l i (⟨x0,⟨[],x2⟩⟩:BranchD))) ∧
 (∀ (x0:Int) (x1:List NodeD) (f:Fl) (z:Nat),V.sl f z [[.i .i64 x0,.sl .own 5 (rows nodeR x1),.sl .own 1 []]]=V.sl f z (rows branchR [(⟨x0,⟨x1,[]⟩⟩:BranchD)])) ∧
 (∀ (x0:Int) (x1:List NodeD) (l:List BranchD),sn (rows branchR l) [.i .i64 x0,.sl .own 5 (rows nodeR x1),.sl .own 1 []]=rows branchR (ap l [(⟨x0,⟨x1,[]⟩⟩:BranchD)])) ∧
 (∀ (x0:Int) (x1:List NodeD) (l:List BranchD) (i:Int),setAt (rows branchR l) i [.i .i64 x0,.sl .own 5 (rows nodeR x1),.sl .own 1 []]=rows branchR (sl l i (⟨x0,⟨x1,[]⟩⟩:BranchD))) ∧
 (∀ (x0:Int) (f:Fl) (z:Nat),V.sl f z [[.i .i64 x0,.sl .own 5 [],.sl .own 1 []]]=V.sl f z (rows branchR [(⟨x0,⟨[],[]⟩⟩:BranchD)])) ∧
 (∀ (x0:Int) (l:List BranchD),sn (rows branchR l) [.i .i64 x0,.sl .own 5 [],.sl .own 1 []]=rows branchR (ap l [(⟨x0,⟨[],[]⟩⟩:BranchD)])) ∧
 (∀ (x0:Int) (l:List BranchD) (i:Int),setAt (rows branchR l) i [.i .i64 x0,.sl .own 5 [],.sl .own 1 []]=rows branchR (sl l i (⟨x0,⟨[],[]⟩⟩:BranchD))) ∧
 (∀ (x0:Int) (n:Int),rep_ n ([.i .i64 x0,.sl .own 5 [],.sl .own 1 []]:List V)=rows branchR (rp n (⟨x0,⟨[],[]⟩⟩:BranchD))) ∧
 (∀ (x0:Int) (x1:List NodeD) (x2:List (List UInt8)) (f:Fl) (z:Nat),V.sl f z [[.i .i64 x0,.sl .shr 5 (rows nodeR x1),.sl .shr 1 (rows strR x2)]]=V.sl f z (rows branchC [(⟨x0,⟨x1,x2⟩⟩:BranchD)])) ∧
 (∀ (x0:Int) (x1:List NodeD) (x2:List (List UInt8)) (l:List BranchD),sn (rows branchC l) [.i .i64 x0,.sl .shr 5 (rows nodeR x1),.sl .shr 1 (rows strR x2)]=rows branchC (ap l [(⟨x0,⟨x1,x2⟩⟩:BranchD)])) ∧
 (∀ (x0:Int) (x2:List (List UInt8)) (f:Fl) (z:Nat),V.sl f z [[.i .i64 x0,.sl .shr 5 [],.sl .shr 1 (rows strR x2)]]=V.sl f z (rows branchC [(⟨x0,⟨[],x2⟩⟩:BranchD)])) ∧
 (∀ (x0:Int) (x2:List (List UInt8)) (l:List BranchD),sn (rows branchC l) [.i .i64 x0,.sl .shr 5 [],.sl .shr 1 (rows strR x2)]=rows branchC (ap l [(⟨x0,⟨[],x2⟩⟩:BranchD)])) ∧
 (∀ (x0:Int) (x1:List NodeD) (f:Fl) (z:Nat),V.sl f z [[.i .i64 x0,.sl .shr 5 (rows nodeR x1),.sl .shr 1 []]]=V.sl f z (rows branchC [(⟨x0,⟨x1,[]⟩⟩:BranchD)])) ∧
 (∀ (x0:Int) (x1:List NodeD) (l:List BranchD),sn (rows branchC l) [.i .i64 x0,.sl .shr 5 (rows nodeR x1),.sl .shr 1 []]=rows branchC (ap l [(⟨x0,⟨x1,[]⟩⟩:BranchD)])) ∧
 (∀ (x0:Int) (f:Fl) (z:Nat),V.sl f z [[.i .i64 x0,.sl .shr 5 [],.sl .shr 1 []]]=V.sl f z (rows branchC [(⟨x0,⟨[],[]⟩⟩:BranchD)])) ∧
 (∀ (x0:Int) (l:List BranchD),sn (rows branchC l) [.i .i64 x0,.sl .shr 5 [],.sl .shr 1 []]=rows branchC (ap l [(⟨x0,⟨[],[]⟩⟩:BranchD)])) ∧
 (∀ (x:BranchD),(⟨x.mode,⟨x.fs.nodes,x.fs.data⟩⟩:BranchD)=x) ∧
 (∀ (l:List BranchD),shRows (rows branchR l)=rows branchC l) :=
 ⟨fun x0 x1 x2 f z=>congrArg (V.sl f z) (show [([.i .i64 x0,.sl .own 5 (rows nodeR x1),.sl .own 1 (rows strR x2)]:List V)]=rows branchR [(⟨x0,⟨x1,x2⟩⟩:BranchD)] from lit1 branchR (⟨x0,⟨x1,x2⟩⟩:BranchD)),
  fun x0 x1 x2 l=>sn_ap branchR l (⟨x0,⟨x1,x2⟩⟩:BranchD),
  fun x0 x1 x2 l i=>setAt_sl branchR l i (⟨x0,⟨x1,x2⟩⟩:BranchD),
  fun x0 x2 f z=>congrArg (V.sl f z) (show [([.i .i64 x0,.sl .own 5 [],.sl .own 1 (rows strR x2)]:List V)]=rows branchR [(⟨x0,⟨[],x2⟩⟩:BranchD)] from by rw [(show ([.i .i64 x0,.sl .own 5 [],.sl .own 1 (rows strR x2)]:List V)=branchR (⟨x0,⟨[],x2⟩⟩:BranchD) from by simp only [branchR,rows_nil])];exact lit1 branchR (⟨x0,⟨[],x2⟩⟩:BranchD)),
  fun x0 x2 l=>by rw [(show ([.i .i64 x0,.sl .own 5 [],.sl .own 1 (rows strR x2)]:List V)=branchR (⟨x0,⟨[],x2⟩⟩:BranchD) from by simp only [branchR,rows_nil])];exact sn_ap branchR l _,
  fun x0 x2 l i=>by rw [(show ([.i .i64 x0,.sl .own 5 [],.sl .own 1 (rows strR x2)]:List V)=branchR (⟨x0,⟨[],x2⟩⟩:BranchD) from by simp only [branchR,rows_nil])];exact setAt_sl branchR l i (⟨x0,⟨[],x2⟩⟩:BranchD),
  fun x0 x1 f z=>congrArg (V.sl f z) (show [([.i .i64 x0,.sl .own 5 (rows nodeR x1),.sl .own 1 []]:List V)]=rows branchR [(⟨x0,⟨x1,[]⟩⟩:BranchD)] from by rw [(show ([.i .i64 x0,.sl .own 5 (rows nodeR x1),.sl .own 1 []]:List V)=branchR (⟨x0,⟨x1,[]⟩⟩:BranchD) from by simp only [branchR,rows_nil])];exact lit1 branchR (⟨x0,⟨x1,[]⟩⟩:BranchD)),
  fun x0 x1 l=>by rw [(show ([.i .i64 x0,.sl .own 5 (rows nodeR x1),.sl .own 1 []]:List V)=branchR (⟨x0,⟨x1,[]⟩⟩:BranchD) from by simp only [branchR,rows_nil])];exact sn_ap branchR l _,
  fun x0 x1 l i=>by rw [(show ([.i .i64 x0,.sl .own 5 (rows nodeR x1),.sl .own 1 []]:List V)=branchR (⟨x0,⟨x1,[]⟩⟩:BranchD) from by simp only [branchR,rows_nil])];exact setAt_sl branchR l i (⟨x0,⟨x1,[]⟩⟩:BranchD),
  fun x0 f z=>congrArg (V.sl f z) (show [([.i .i64 x0,.sl .own 5 [],.sl .own 1 []]:List V)]=rows branchR [(⟨x0,⟨[],[]⟩⟩:BranchD)] from by rw [(show ([.i .i64 x0,.sl .own 5 [],.sl .own 1 []]:List V)=branchR (⟨x0,⟨[],[]⟩⟩:BranchD) from by simp only [branchR,rows_nil])];exact lit1 branchR (⟨x0,⟨[],[]⟩⟩:BranchD)),
  fun x0 l=>by rw [(show ([.i .i64 x0,.sl .own 5 [],.sl .own 1 []]:List V)=branchR (⟨x0,⟨[],[]⟩⟩:BranchD) from by simp only [branchR,rows_nil])];exact sn_ap branchR l _,
  fun x0 l i=>by rw [(show ([.i .i64 x0,.sl .own 5 [],.sl .own 1 []]:List V)=branchR (⟨x0,⟨[],[]⟩⟩:BranchD) from by simp only [branchR,rows_nil])];exact setAt_sl branchR l i (⟨x0,⟨[],[]⟩⟩:BranchD),
  fun x0 n=>by rw [(show ([.i .i64 x0,.sl .own 5 [],.sl .own 1 []]:List V)=branchR (⟨x0,⟨[],[]⟩⟩:BranchD) from by simp only [branchR,rows_nil])];exact rep_rp branchR n (⟨x0,⟨[],[]⟩⟩:BranchD),
  fun x0 x1 x2 f z=>congrArg (V.sl f z) (show [([.i .i64 x0,.sl .shr 5 (rows nodeR x1),.sl .shr 1 (rows strR x2)]:List V)]=rows branchC [(⟨x0,⟨x1,x2⟩⟩:BranchD)] from lit1 branchC (⟨x0,⟨x1,x2⟩⟩:BranchD)),
  fun x0 x1 x2 l=>sn_ap branchC l (⟨x0,⟨x1,x2⟩⟩:BranchD),
  fun x0 x2 f z=>congrArg (V.sl f z) (show [([.i .i64 x0,.sl .shr 5 [],.sl .shr 1 (rows strR x2)]:List V)]=rows branchC [(⟨x0,⟨[],x2⟩⟩:BranchD)] from by rw [(show ([.i .i64 x0,.sl .shr 5 [],.sl .shr 1 (rows strR x2)]:List V)=branchC (⟨x0,⟨[],x2⟩⟩:BranchD) from by simp only [branchC,rows_nil])];exact lit1 branchC (⟨x0,⟨[],x2⟩⟩:BranchD)),
  fun x0 x2 l=>by rw [(show ([.i .i64 x0,.sl .shr 5 [],.sl .shr 1 (rows strR x2)]:List V)=branchC (⟨x0,⟨[],x2⟩⟩:BranchD) from by simp only [branchC,rows_nil])];exact sn_ap branchC l _,
  fun x0 x1 f z=>congrArg (V.sl f z) (show [([.i .i64 x0,.sl .shr 5 (rows nodeR x1),.sl .shr 1 []]:List V)]=rows branchC [(⟨x0,⟨x1,[]⟩⟩:BranchD)] from by rw [(show ([.i .i64 x0,.sl .shr 5 (rows nodeR x1),.sl .shr 1 []]:List V)=branchC (⟨x0,⟨x1,[]⟩⟩:BranchD) from by simp only [branchC,rows_nil])];exact lit1 branchC (⟨x0,⟨x1,[]⟩⟩:BranchD)),
  fun x0 x1 l=>by rw [(show ([.i .i64 x0,.sl .shr 5 (rows nodeR x1),.sl .shr 1 []]:List V)=branchC (⟨x0,⟨x1,[]⟩⟩:BranchD) from by simp only [branchC,rows_nil])];exact sn_ap branchC l _,
  fun x0 f z=>congrArg (V.sl f z) (show [([.i .i64 x0,.sl .shr 5 [],.sl .shr 1 []]:List V)]=rows branchC [(⟨x0,⟨[],[]⟩⟩:BranchD)] from by rw [(show ([.i .i64 x0,.sl .shr 5 [],.sl .shr 1 []]:List V)=branchC (⟨x0,⟨[],[]⟩⟩:BranchD) from by simp only [branchC,rows_nil])];exact lit1 branchC (⟨x0,⟨[],[]⟩⟩:BranchD)),
  fun x0 l=>by rw [(show ([.i .i64 x0,.sl .shr 5 [],.sl .shr 1 []]:List V)=branchC (⟨x0,⟨[],[]⟩⟩:BranchD) from by simp only [branchC,rows_nil])];exact sn_ap branchC l _,
  fun x=>rfl,
  fun l=>shRows_f branchR branchC (fun _=>rfl) l⟩
theorem N_Move:(∀ (x0:Bool) (x1:Bool) (x2:Int) (x3:Int) (x4:List UInt8) (x5:Int) (x6:Int) (f:Fl) (z:Nat),V.sl f z [[.b x0,.b x1,.i .i64 x2,.i .i64 x3,.s x4,.i .i64 x5,.i .i64 x6]]=V.sl f z (rows moveR [(⟨x0,x1,x2,x3,x4,x5,x6⟩:MoveD)])) ∧
 (∀ (x0:Bool) (x1:Bool) (x2:Int) (x3:Int) (x4:List UInt8) (x5:Int) (x6:Int) (l:List MoveD),sn (rows moveR l) [.b x0,.b x1,.i .i64 x2,.i .i64 x3,.s x4,.i .i64 x5,.i .i64 x6]=rows moveR (ap l [(⟨x0,x1,x2,x3,x4,x5,x6⟩:MoveD)])) ∧
 (∀ (x0:Bool) (x1:Bool) (x2:Int) (x3:Int) (x4:List UInt8) (x5:Int) (x6:Int) (l:List MoveD) (i:Int),setAt (rows moveR l) i [.b x0,.b x1,.i .i64 x2,.i .i64 x3,.s x4,.i .i64 x5,.i .i64 x6]=rows moveR (sl l i (⟨x0,x1,x2,x3,x4,x5,x6⟩:MoveD))) ∧
 (∀ (x0:Bool) (x1:Bool) (x2:Int) (x3:Int) (x4:List UInt8) (x5:Int) (x6:Int) (n:Int),rep_ n ([.b x0,.b x1,.i .i64 x2,.i .i64 x3,.s x4,.i .i64 x5,.i .i64 x6]:List V)=rows moveR (rp n (⟨x0,x1,x2,x3,x4,x5,x6⟩:MoveD))) ∧
 (∀ (x:MoveD),(⟨x.on,x.cln,x.src,x.dst,x.path,x.gen,x.dn⟩:MoveD)=x) ∧
 (∀ (x0:Bool) (x1:Bool) (x2:Int) (x3:Int) (x4:List UInt8) (x5:Int) (x6:Int) (y0:Bool) (y1:Bool) (y2:Int) (y3:Int) (y4:List UInt8) (y5:Int) (y6:Int),vEq [.b x0,.b x1,.i .i64 x2,.i .i64 x3,.s x4,.i .i64 x5,.i .i64 x6] [.b y0,.b y1,.i .i64 y2,.i .i64 y3,.s y4,.i .i64 y5,.i .i64 y6]=rq (⟨x0,x1,x2,x3,x4,x5,x6⟩:MoveD) (⟨y0,y1,y2,y3,y4,y5,y6⟩:MoveD)) ∧
 (∀ (l:List MoveD),shRows (rows moveR l)=rows moveR l) ∧
 (∀ (l:List MoveD),Sc (rows moveR l)=True) :=
 ⟨fun x0 x1 x2 x3 x4 x5 x6 f z=>congrArg (V.sl f z) (show [([.b x0,.b x1,.i .i64 x2,.i .i64 x3,.s x4,.i .i64 x5,.i .i64 x6]:List V)]=rows moveR [(⟨x0,x1,x2,x3,x4,x5,x6⟩:MoveD)] from lit1 moveR (⟨x0,x1,x2,x3,x4,x5,x6⟩:MoveD)),
  fun x0 x1 x2 x3 x4 x5 x6 l=>sn_ap moveR l (⟨x0,x1,x2,x3,x4,x5,x6⟩:MoveD),
  fun x0 x1 x2 x3 x4 x5 x6 l i=>setAt_sl moveR l i (⟨x0,x1,x2,x3,x4,x5,x6⟩:MoveD),
  fun x0 x1 x2 x3 x4 x5 x6 n=>rep_rp moveR n (⟨x0,x1,x2,x3,x4,x5,x6⟩:MoveD),
  fun x=>rfl,
  fun x0 x1 x2 x3 x4 x5 x6 y0 y1 y2 y3 y4 y5 y6=>vEq_rq (by simp),
  fun l=>shRows_f moveR moveR (fun _=>rfl) l,
  fun l=>Sc_f moveR (fun _=>rfl) l⟩
theorem N_Item:(∀ (x0:List UInt8) (x1:Int) (x2:List UInt8) (x3:Int) (f:Fl) (z:Nat),V.sl f z [[.s x0,.i .i64 x1,.s x2,.i .i64 x3]]=V.sl f z (rows itemR [(⟨x0,x1,x2,x3⟩:ItemD)])) ∧
 (∀ (x0:List UInt8) (x1:Int) (x2:List UInt8) (x3:Int) (l:List ItemD),sn (rows itemR l) [.s x0,.i .i64 x1,.s x2,.i .i64 x3]=rows itemR (ap l [(⟨x0,x1,x2,x3⟩:ItemD)])) ∧
 (∀ (x0:List UInt8) (x1:Int) (x2:List UInt8) (x3:Int) (l:List ItemD) (i:Int),setAt (rows itemR l) i [.s x0,.i .i64 x1,.s x2,.i .i64 x3]=rows itemR (sl l i (⟨x0,x1,x2,x3⟩:ItemD))) ∧
 (∀ (x0:List UInt8) (x1:Int) (x2:List UInt8) (x3:Int) (n:Int),rep_ n ([.s x0,.i .i64 x1,.s x2,.i .i64 x3]:List V)=rows itemR (rp n (⟨x0,x1,x2,x3⟩:ItemD))) ∧
 (∀ (x:ItemD),(⟨x.path,x.kind,x.data,x.time⟩:ItemD)=x) ∧
 (∀ (x0:List UInt8) (x1:Int) (x2:List UInt8) (x3:Int) (y0:List UInt8) (y1:Int) (y2:List UInt8) (y3:Int),vEq [.s x0,.i .i64 x1,.s x2,.i .i64 x3] [.s y0,.i .i64 y1,.s y2,.i .i64 y3]=rq (⟨x0,x1,x2,x3⟩:ItemD) (⟨y0,y1,y2,y3⟩:ItemD)) ∧
 (∀ (l:List ItemD),shRows (rows itemR l)=rows itemR l) ∧
 (∀ (l:List ItemD),Sc (rows itemR l)=True) :=
 ⟨fun x0 x1 x2 x3 f z=>congrArg (V.sl f z) (show [([.s x0,.i .i64 x1,.s x2,.i .i64 x3]:List V)]=rows itemR [(⟨x0,x1,x2,x3⟩:ItemD)] from lit1 itemR (⟨x0,x1,x2,x3⟩:ItemD)),
  fun x0 x1 x2 x3 l=>sn_ap itemR l (⟨x0,x1,x2,x3⟩:ItemD),
  fun x0 x1 x2 x3 l i=>setAt_sl itemR l i (⟨x0,x1,x2,x3⟩:ItemD),
  fun x0 x1 x2 x3 n=>rep_rp itemR n (⟨x0,x1,x2,x3⟩:ItemD),
  fun x=>rfl,
  fun x0 x1 x2 x3 y0 y1 y2 y3=>vEq_rq (by simp),
  fun l=>shRows_f itemR itemR (fun _=>rfl) l,
  fun l=>Sc_f itemR (fun _=>rfl) l⟩
end Go.Ar
