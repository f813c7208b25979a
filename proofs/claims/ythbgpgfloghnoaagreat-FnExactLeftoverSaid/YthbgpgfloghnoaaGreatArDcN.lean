import Derived.Test.YthbgpgfloghnoaaGreatArDcB
namespace Go.Ar
open Go.Proofs
set_option linter.unusedVariables false
set_option linter.unusedSimpArgs false
set_option maxRecDepth 20000
set_option maxHeartbeats 40000000
theorem N_Int:(∀ (x:Int) (f:Fl) (z:Nat),V.sl f z [[.i .i64 x]]=V.sl f z (rows intR [x])) ∧
 (∀ (x:Int) (l:List Int),sn (rows intR l) [.i .i64 x]=rows intR (ap l [x])) ∧
 (∀ (x:Int) (l:List Int) (i:Int),setAt (rows intR l) i [.i .i64 x]=rows intR (sl l i x)) ∧
 (∀ (x:Int) (n:Int),rep_ n ([.i .i64 x]:List V)=rows intR (rp n x)) ∧
 (∀ (x_0:Int) (x_1:Int) (f:Fl) (z:Nat),V.sl f z [([.i .i64 x_0]:List V),([.i .i64 x_1]:List V)]=V.sl f z (rows intR [x_0,x_1])) ∧
 (∀ (x_0:Int) (x_1:Int) (q:List (List V)),app q [([.i .i64 x_0]:List V),([.i .i64 x_1]:List V)]=app q (rows intR [x_0,x_1])) ∧
 (∀ (x_0:Int) (x_1:Int) (q:List (List V)),app [([.i .i64 x_0]:List V),([.i .i64 x_1]:List V)] q=app (rows intR [x_0,x_1]) q) ∧
 (∀ (x_0:Int) (x_1:Int) (x_2:Int) (f:Fl) (z:Nat),V.sl f z [([.i .i64 x_0]:List V),([.i .i64 x_1]:List V),([.i .i64 x_2]:List V)]=V.sl f z (rows intR [x_0,x_1,x_2])) ∧
 (∀ (x_0:Int) (x_1:Int) (x_2:Int) (q:List (List V)),app q [([.i .i64 x_0]:List V),([.i .i64 x_1]:List V),([.i .i64 x_2]:List V)]=app q (rows intR [x_0,x_1,x_2])) ∧
 (∀ (x_0:Int) (x_1:Int) (x_2:Int) (q:List (List V)),app [([.i .i64 x_0]:List V),([.i .i64 x_1]:List V),([.i .i64 x_2]:List V)] q=app (rows intR [x_0,x_1,x_2]) q) ∧
 (∀ (l:List Int),shRows (rows intR l)=rows intR l) ∧
 (∀ (l:List Int),Sc (rows intR l)=True) :=
 ⟨fun x f z=>congrArg (V.sl f z) (show [([.i .i64 x]:List V)]=rows intR [x] from lit1 intR x),
  fun x l=>sn_ap intR l x,
  fun x l i=>setAt_sl intR l i x,
  fun x n=>rep_rp intR n x,
  fun x_0 x_1 f z=>congrArg (V.sl f z) (show [([.i .i64 x_0]:List V),([.i .i64 x_1]:List V)]=rows intR [x_0,x_1] from lit2 intR x_0 x_1),
  fun x_0 x_1 q=>congrArg (app q) (show [([.i .i64 x_0]:List V),([.i .i64 x_1]:List V)]=rows intR [x_0,x_1] from lit2 intR x_0 x_1),
  fun x_0 x_1 q=>congrArg (fun y=>app y q) (show [([.i .i64 x_0]:List V),([.i .i64 x_1]:List V)]=rows intR [x_0,x_1] from lit2 intR x_0 x_1),
  fun x_0 x_1 x_2 f z=>congrArg (V.sl f z) (show [([.i .i64 x_0]:List V),([.i .i64 x_1]:List V),([.i .i64 x_2]:List V)]=rows intR [x_0,x_1,x_2] from lit3 intR x_0 x_1 x_2),
  fun x_0 x_1 x_2 q=>congrArg (app q) (show [([.i .i64 x_0]:List V),([.i .i64 x_1]:List V),([.i .i64 x_2]:List V)]=rows intR [x_0,x_1,x_2] from lit3 intR x_0 x_1 x_2),
  fun x_0 x_1 x_2 q=>congrArg (fun y=>app y q) (show [([.i .i64 x_0]:List V),([.i .i64 x_1]:List V),([.i .i64 x_2]:List V)]=rows intR [x_0,x_1,x_2] from lit3 intR x_0 x_1 x_2),
  fun l=>shRows_f intR intR (fun _=>rfl) l,
  fun l=>Sc_f intR (fun _=>rfl) l⟩
theorem N_String:(∀ (x:List UInt8) (f:Fl) (z:Nat),V.sl f z [[.s x]]=V.sl f z (rows strR [x])) ∧
 (∀ (x:List UInt8) (l:List (List UInt8)),sn (rows strR l) [.s x]=rows strR (ap l [x])) ∧
 (∀ (x:List UInt8) (l:List (List UInt8)) (i:Int),setAt (rows strR l) i [.s x]=rows strR (sl l i x)) ∧
 (∀ (x:List UInt8) (n:Int),rep_ n ([.s x]:List V)=rows strR (rp n x)) ∧
 (∀ (x_0:List UInt8) (x_1:List UInt8) (f:Fl) (z:Nat),V.sl f z [([.s x_0]:List V),([.s x_1]:List V)]=V.sl f z (rows strR [x_0,x_1])) ∧
 (∀ (x_0:List UInt8) (x_1:List UInt8) (q:List (List V)),app q [([.s x_0]:List V),([.s x_1]:List V)]=app q (rows strR [x_0,x_1])) ∧
 (∀ (x_0:List UInt8) (x_1:List UInt8) (q:List (List V)),app [([.s x_0]:List V),([.s x_1]:List V)] q=app (rows strR [x_0,x_1]) q) ∧
 (∀ (x_0:List UInt8) (x_1:List UInt8) (x_2:List UInt8) (x_3:List UInt8) (x_4:List UInt8) (x_5:List UInt8) (f:Fl) (z:Nat),V.sl f z [([.s x_0]:List V),([.s x_1]:List V),([.s x_2]:List V),([.s x_3]:List V),([.s x_4]:List V),([.s x_5]:List V)]=V.sl f z (rows strR [x_0,x_1,x_2,x_3,x_4,x_5])) ∧
 (∀ (x_0:List UInt8) (x_1:List UInt8) (x_2:List UInt8) (x_3:List UInt8) (x_4:List UInt8) (x_5:List UInt8) (q:List (List V)),app q [([.s x_0]:List V),([.s x_1]:List V),([.s x_2]:List V),([.s x_3]:List V),([.s x_4]:List V),([.s x_5]:List V)]=app q (rows strR [x_0,x_1,x_2,x_3,x_4,x_5])) ∧
 (∀ (x_0:List UInt8) (x_1:List UInt8) (x_2:List UInt8) (x_3:List UInt8) (x_4:List UInt8) (x_5:List UInt8) (q:List (List V)),app [([.s x_0]:List V),([.s x_1]:List V),([.s x_2]:List V),([.s x_3]:List V),([.s x_4]:List V),([.s x_5]:List V)] q=app (rows strR [x_0,x_1,x_2,x_3,x_4,x_5]) q) ∧
 (∀ (l:List (List UInt8)),shRows (rows strR l)=rows strR l) ∧
 (∀ (l:List (List UInt8)),Sc (rows strR l)=True) :=
 ⟨fun x f z=>congrArg (V.sl f z) (show [([.s x]:List V)]=rows strR [x] from lit1 strR x),
  fun x l=>sn_ap strR l x,
  fun x l i=>setAt_sl strR l i x,
  fun x n=>rep_rp strR n x,
  fun x_0 x_1 f z=>congrArg (V.sl f z) (show [([.s x_0]:List V),([.s x_1]:List V)]=rows strR [x_0,x_1] from lit2 strR x_0 x_1),
  fun x_0 x_1 q=>congrArg (app q) (show [([.s x_0]:List V),([.s x_1]:List V)]=rows strR [x_0,x_1] from lit2 strR x_0 x_1),
  fun x_0 x_1 q=>congrArg (fun y=>app y q) (show [([.s x_0]:List V),([.s x_1]:List V)]=rows strR [x_0,x_1] from lit2 strR x_0 x_1),
  fun x_0 x_1 x_2 x_3 x_4 x_5 f z=>congrArg (V.sl f z) (show [([.s x_0]:List V),([.s x_1]:List V),([.s x_2]:List V),([.s x_3]:List V),([.s x_4]:List V),([.s x_5]:List V)]=rows strR [x_0,x_1,x_2,x_3,x_4,x_5] from lit6 strR x_0 x_1 x_2 x_3 x_4 x_5),
  fun x_0 x_1 x_2 x_3 x_4 x_5 q=>congrArg (app q) (show [([.s x_0]:List V),([.s x_1]:List V),([.s x_2]:List V),([.s x_3]:List V),([.s x_4]:List V),([.s x_5]:List V)]=rows strR [x_0,x_1,x_2,x_3,x_4,x_5] from lit6 strR x_0 x_1 x_2 x_3 x_4 x_5),
  fun x_0 x_1 x_2 x_3 x_4 x_5 q=>congrArg (fun y=>app y q) (show [([.s x_0]:List V),([.s x_1]:List V),([.s x_2]:List V),([.s x_3]:List V),([.s x_4]:List V),([.s x_5]:List V)]=rows strR [x_0,x_1,x_2,x_3,x_4,x_5] from lit6 strR x_0 x_1 x_2 x_3 x_4 x_5),
  fun l=>shRows_f strR strR (fun _=>rfl) l,
  fun l=>Sc_f strR (fun _=>rfl) l⟩
theorem N_Node:(∀ (x0:Int) (x1:Int) (x2:Int) (x3:Int) (x4:List Int) (f:Fl) (z:Nat),V.sl f z [[.i .i64 x0,.i .i64 x1,.i .i64 x2,.i .i64 x3,.sl .own 1 (rows intR x4)]]=V.sl f z (rows nodeR [(⟨x0,x1,x2,x3,x4⟩:NodeD)])) ∧
 (∀ (x0:Int) (x1:Int) (x2:Int) (x3:Int) (x4:List Int) (l:List NodeD),sn (rows nodeR l) [.i .i64 x0,.i .i64 x1,.i .i64 x2,.i .i64 x3,.sl .own 1 (rows intR x4)]=rows nodeR (ap l [(⟨x0,x1,x2,x3,x4⟩:NodeD)])) ∧
 (∀ (x0:Int) (x1:Int) (x2:Int) (x3:Int) (x4:List Int) (l:List NodeD) (i:Int),setAt (rows nodeR l) i [.i .i64 x0,.i .i64 x1,.i .i64 x2,.i .i64 x3,.sl .own 1 (rows intR x4)]=rows nodeR (sl l i (⟨x0,x1,x2,x3,x4⟩:NodeD))) ∧
 (∀ (x0:Int) (x1:Int) (x2:Int) (x3:Int) (f:Fl) (z:Nat),V.sl f z [[.i .i64 x0,.i .i64 x1,.i .i64 x2,.i .i64 x3,.sl .own 1 []]]=V.sl f z (rows nodeR [(⟨x0,x1,x2,x3,[]⟩:NodeD)])) ∧
 (∀ (x0:Int) (x1:Int) (x2:Int) (x3:Int) (l:List NodeD),sn (rows nodeR l) [.i .i64 x0,.i .i64 x1,.i .i64 x2,.i .i64 x3,.sl .own 1 []]=rows nodeR (ap l [(⟨x0,x1,x2,x3,[]⟩:NodeD)])) ∧
 (∀ (x0:Int) (x1:Int) (x2:Int) (x3:Int) (l:List NodeD) (i:Int),setAt (rows nodeR l) i [.i .i64 x0,.i .i64 x1,.i .i64 x2,.i .i64 x3,.sl .own 1 []]=rows nodeR (sl l i (⟨x0,x1,x2,x3,[]⟩:NodeD))) ∧
 (∀ (x0:Int) (x1:Int) (x2:Int) (x3:Int) (n:Int),rep_ n ([.i .i64 x0,.i .i64 x1,.i .i64 x2,.i .i64 x3,.sl .own 1 []]:List V)=rows nodeR (rp n (⟨x0,x1,x2,x3,[]⟩:NodeD))) ∧
 (∀ (x0:Int) (x1:Int) (x2:Int) (x3:Int) (x4:List Int) (f:Fl) (z:Nat),V.sl f z [[.i .i64 x0,.i .i64 x1,.i .i64 x2,.i .i64 x3,.sl .shr 1 (rows intR x4)]]=V.sl f z (rows nodeC [(⟨x0,x1,x2,x3,x4⟩:NodeD)])) ∧
 (∀ (x0:Int) (x1:Int) (x2:Int) (x3:Int) (x4:List Int) (l:List NodeD),sn (rows nodeC l) [.i .i64 x0,.i .i64 x1,.i .i64 x2,.i .i64 x3,.sl .shr 1 (rows intR x4)]=rows nodeC (ap l [(⟨x0,x1,x2,x3,x4⟩:NodeD)])) ∧
 (∀ (x0:Int) (x1:Int) (x2:Int) (x3:Int) (f:Fl) (z:Nat),V.sl f z [[.i .i64 x0,.i .i64 x1,.i .i64 x2,.i .i64 x3,.sl .shr 1 []]]=V.sl f z (rows nodeC [(⟨x0,x1,x2,x3,[]⟩:NodeD)])) ∧
 (∀ (x0:Int) (x1:Int) (x2:Int) (x3:Int) (l:List NodeD),sn (rows nodeC l) [.i .i64 x0,.i .i64 x1,.i .i64 x2,.i .i64 x3,.sl .shr 1 []]=rows nodeC (ap l [(⟨x0,x1,x2,x3,[]⟩:NodeD)])) ∧
 (∀ (x:NodeD),(⟨x.kind,x.gen,x.time,x.size,x.blocks⟩:NodeD)=x) ∧
 (∀ (l:List NodeD),shRows (rows nodeR l)=rows nodeC l) :=
 ⟨fun x0 x1 x2 x3 x4 f z=>congrArg (V.sl f z) (show [([.i .i64 x0,.i .i64 x1,.i .i64 x2,.i .i64 x3,.sl .own 1 (rows intR x4)]:List V)]=rows nodeR [(⟨x0,x1,x2,x3,x4⟩:NodeD)] from lit1 nodeR (⟨x0,x1,x2,x3,x4⟩:NodeD)),
  fun x0 x1 x2 x3 x4 l=>sn_ap nodeR l (⟨x0,x1,x2,x3,x4⟩:NodeD),
  fun x0 x1 x2 x3 x4 l i=>setAt_sl nodeR l i (⟨x0,x1,x2,x3,x4⟩:NodeD),
  fun x0 x1 x2 x3 f z=>congrArg (V.sl f z) (show [([.i .i64 x0,.i .i64 x1,.i .i64 x2,.i .i64 x3,.sl .own 1 []]:List V)]=rows nodeR [(⟨x0,x1,x2,x3,[]⟩:NodeD)] from by rw [(show ([.i .i64 x0,.i .i64 x1,.i .i64 x2,.i .i64 x3,.sl .own 1 []]:List V)=nodeR (⟨x0,x1,x2,x3,[]⟩:NodeD) from by simp only [nodeR,rows_nil])];exact lit1 nodeR (⟨x0,x1,x2,x3,[]⟩:NodeD)),
  fun x0 x1 x2 x3 l=>by rw [(show ([.i .i64 x0,.i .i64 x1,.i .i64 x2,.i .i64 x3,.sl .own 1 []]:List V)=nodeR (⟨x0,x1,x2,x3,[]⟩:NodeD) from by simp only [nodeR,rows_nil])];exact sn_ap nodeR l _,
  fun x0 x1 x2 x3 l i=>by rw [(show ([.i .i64 x0,.i .i64 x1,.i .i64 x2,.i .i64 x3,.sl .own 1 []]:List V)=nodeR (⟨x0,x1,x2,x3,[]⟩:NodeD) from by simp only [nodeR,rows_nil])];exact setAt_sl nodeR l i (⟨x0,x1,x2,x3,[]⟩:NodeD),
  fun x0 x1 x2 x3 n=>by rw [(show ([.i .i64 x0,.i .i64 x1,.i .i64 x2,.i .i64 x3,.sl .own 1 []]:List V)=nodeR (⟨x0,x1,x2,x3,[]⟩:NodeD) from by simp only [nodeR,rows_nil])];exact rep_rp nodeR n (⟨x0,x1,x2,x3,[]⟩:NodeD),
  fun x0 x1 x2 x3 x4 f z=>congrArg (V.sl f z) (show [([.i .i64 x0,.i .i64 x1,.i .i64 x2,.i .i64 x3,.sl .shr 1 (rows intR x4)]:List V)]=rows nodeC [(⟨x0,x1,x2,x3,x4⟩:NodeD)] from lit1 nodeC (⟨x0,x1,x2,x3,x4⟩:NodeD)),
  fun x0 x1 x2 x3 x4 l=>sn_ap nodeC l (⟨x0,x1,x2,x3,x4⟩:NodeD),
  fun x0 x1 x2 x3 f z=>congrArg (V.sl f z) (show [([.i .i64 x0,.i .i64 x1,.i .i64 x2,.i .i64 x3,.sl .shr 1 []]:List V)]=rows nodeC [(⟨x0,x1,x2,x3,[]⟩:NodeD)] from by rw [(show ([.i .i64 x0,.i .i64 x1,.i .i64 x2,.i .i64 x3,.sl .shr 1 []]:List V)=nodeC (⟨x0,x1,x2,x3,[]⟩:NodeD) from by simp only [nodeC,rows_nil])];exact lit1 nodeC (⟨x0,x1,x2,x3,[]⟩:NodeD)),
  fun x0 x1 x2 x3 l=>by rw [(show ([.i .i64 x0,.i .i64 x1,.i .i64 x2,.i .i64 x3,.sl .shr 1 []]:List V)=nodeC (⟨x0,x1,x2,x3,[]⟩:NodeD) from by simp only [nodeC,rows_nil])];exact sn_ap nodeC l _,
  fun x=>rfl,
  fun l=>shRows_f nodeR nodeC (fun _=>rfl) l⟩
theorem N_Entry:(∀ (x0:List UInt8) (x1:Int) (f:Fl) (z:Nat),V.sl f z [[.s x0,.i .i64 x1]]=V.sl f z (rows entryR [(⟨x0,x1⟩:EntryD)])) ∧
 (∀ (x0:List UInt8) (x1:Int) (l:List EntryD),sn (rows entryR l) [.s x0,.i .i64 x1]=rows entryR (ap l [(⟨x0,x1⟩:EntryD)])) ∧
 (∀ (x0:List UInt8) (x1:Int) (l:List EntryD) (i:Int),setAt (rows entryR l) i [.s x0,.i .i64 x1]=rows entryR (sl l i (⟨x0,x1⟩:EntryD))) ∧
 (∀ (x0:List UInt8) (x1:Int) (n:Int),rep_ n ([.s x0,.i .i64 x1]:List V)=rows entryR (rp n (⟨x0,x1⟩:EntryD))) ∧
 (∀ (x:EntryD),(⟨x.name,x.node⟩:EntryD)=x) ∧
 (∀ (x0:List UInt8) (x1:Int) (y0:List UInt8) (y1:Int),vEq [.s x0,.i .i64 x1] [.s y0,.i .i64 y1]=rq (⟨x0,x1⟩:EntryD) (⟨y0,y1⟩:EntryD)) ∧
 (∀ (l:List EntryD),shRows (rows entryR l)=rows entryR l) ∧
 (∀ (l:List EntryD),Sc (rows entryR l)=True) :=
 ⟨fun x0 x1 f z=>congrArg (V.sl f z) (show [([.s x0,.i .i64 x1]:List V)]=rows entryR [(⟨x0,x1⟩:EntryD)] from lit1 entryR (⟨x0,x1⟩:EntryD)),
  fun x0 x1 l=>sn_ap entryR l (⟨x0,x1⟩:EntryD),
  fun x0 x1 l i=>setAt_sl entryR l i (⟨x0,x1⟩:EntryD),
  fun x0 x1 n=>rep_rp entryR n (⟨x0,x1⟩:EntryD),
  fun x=>rfl,
  fun x0 x1 y0 y1=>vEq_rq (by simp),
  fun l=>shRows_f entryR entryR (fun _=>rfl) l,
  fun l=>Sc_f entryR (fun _=>rfl) l⟩
end Go.Ar
