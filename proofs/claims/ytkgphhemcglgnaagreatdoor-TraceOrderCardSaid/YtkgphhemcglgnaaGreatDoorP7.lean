/- Proved in the last of these texts: for every input the law returns true and its arguments read afterwards as they read before. This text: a part of the proof. -/
import Derived.Test.YtkgphhemcglgnaaGreatDoorP6
import Derived.Ground.Names2Prog
import Derived.Shelf.Slices.CompactS
import Derived.Shelf.Slices.In.SortNone
import Derived.Shelf.Small.Wraps
import Derived.Shelf.Sort.Plain
import Derived.Test.YtkgphhemcglgnaaGreatDoorProg
noncomputable section
set_option linter.unusedVariables false
set_option linter.unusedSimpArgs false
set_option linter.unusedSectionVars false
set_option linter.defProp false
namespace Go.Proofs.YtkgphhemcglgnaaGreatDoor
open Go HY
set_option maxRecDepth 1000000
abbrev WZ(s:Qb)(u:((List gVal)×Int))(o:Unit ⊕ Int):List Alt:=[⟨fun(x:Unit)=>(Sum.inl x:Unit ⊕ Int)=o,.exit 0,fun x=>[.undef],fun x=>[]⟩,⟨fun(x:Int)=>(Sum.inr x:Unit ⊕ Int)=o,.ret,fun x=>[ii x],fun x=>[]⟩]
def Ys(x2:Qb)(a4:List gVal)(a5:Int)(a3:Int):Option (Unit ⊕ Int):=
 if a3<a5 then
 ix a4 a3>>=fun v0=>
 VZ x2 v0>>=fun v1=>if v1 then
 Ys x2 a4 a5 (wr (a3+1))
 else
 some (.inr (1:Int))
 else
 some (.inl ())
 partial_fixpoint
theorem SE(x2 x13 x14 a3 o)(h:Ys x2 x13 x14 a3=some o):LO 384 5 24 [2,13,14,15] [.ptr 0 0 0,.sl 2 (List.map Qd x13),ii x14,ii a3] [.cells 0 (Qm x2).cells] [4] (WZ x2 (x13,x14) o):=
 Ys.partial_correctness x2 x13 x14 (fun a3 o=>LO 384 5 24 [2,13,14,15] [.ptr 0 0 0,.sl 2 (List.map Qd x13),ii x14,ii a3] [.cells 0 (Qm x2).cells] [4] (WZ x2 (x13,x14) o))
 (fun Ys Qcx a3 o h=>
 have i0 a:=Ll.mk (Qcx a);Lp4 (hs:=[(16,.split),(17,.e Qd),(21,.cb)]) (kb:=[kk 2]) (kbx:=[]) rfl h) a3 o h
@[reducible,instance] def Q8z x2 x13 x14 x15:=Ll.mk (SE x2 x13 x14 x15)
def Kd(x0:Qb)(x1:List gVal):Option Int:=
 Zy x0>>=fun v0=>
 if v0 !=0 then
 some v0
 else
 some (List.length x1:Int)>>=fun v1=>
 some (x1,v1)>>=fun v2=>
 Ys x0 x1 v1 0>>=fun v3=>(match v3 with
 | (.inl v4)=>
 some (0:Int)
 | (.inr v5)=>
 some v5)
theorem Ow(x0 x1 r)(h:Kd x0 x1=some r):PU 384 [Qm x0,eLgVal x1] (eI r):=
 Pu4 (hs:=[(9,.c eI),(11,.split),(14,.n eI 14 none),(3000006,.l [] [2,13,14,15] [kk 2] [4] [] (WZ x0))]) (Kd.eq_1 x0 x1) h
@[reducible,instance] def Qc8 x0 x1:=Lw.mk (Ow x0 x1)
abbrev Mn(s:Unit)(u:(gVal×Bool×Int×Int))(o:Bool):List Alt:=jb o (fun b=>[.ptr 0 0 0,.bool (u.2.1),.int .u64 (u.2.2.1),.int .u64 (u.2.2.2),.bool b]) [.cells 0 (Qd (u.1)).cells]
def Jk(x0:Int)(x1:Int):Option (gVal×Int):=
 if x1==0 then
 some ((gVal.mk (0:Int) (0:Int)))>>=fun v0=>
 some (v0,(4:Int))
 else
 XO x0>>=fun v1=>
 XO x1>>=fun v2=>
 some (v1:Int)>>=fun v3=>
 some (v2:Int)>>=fun v4=>
 GC v3 v4>>=fun v5=>
 if v5≠0 then
 if v5≠0 then
 some (w6 (v3.tdiv v5):Int)>>=fun v6=>
 some (w6 (v4.tdiv v5):Int)>>=fun v7=>
 some ((gVal.mk (0:Int) (0:Int)),(!decide (x0<0)==decide (x1<0)),v6,v7)>>=fun v8=>
 (if 2147483647<v6 then
 some true
 else
 if 2147483647<v7 then
 some true
 else
 some false)>>=fun v9=>if v9 then
 some ((gVal.mk (0:Int) (0:Int)))>>=fun a5=>
 some (a5,(3:Int))
 else
 if v8.snd.fst then
 some ((gVal.mk (wr ((0:Int) - wr v8.snd.snd.fst)) (wr v8.snd.snd.snd)))>>=fun a6=>
 some (a6,(0:Int))
 else
 some ((gVal.mk (wr v8.snd.snd.fst) (wr v8.snd.snd.snd)))>>=fun a7=>
 some (a7,(0:Int))
 else none
 else none
theorem Q4t(x0 x1 r)(h:Jk x0 x1=some r):PU 385 [eI x0,eI x1] (Qs r):=
 Pu4 (hs:=[(11,.split),(12,.n Qd 12 none),(19,.c eU64),(21,.c eU64),(24,.c eU64),(27,.s),(30,.s),(7,.n eU64 7 none),(8,.n eU64 8 none),(32,.split),(35,.split),(37,.n Qd 37 none),(38,.split),(44,.n Qd 44 none),(49,.n Qd 49 none),(5000007,.l [] [] [] [4,6,7,8,36] [kk 4] (Mn ()))]) (Jk.eq_1 x0 x1) h (q:=qIf (hB:=qC (hA:=fun v1=>qC (hA:=fun v2=>qN (hA:=fun v3=>qN (hA:=fun v4=>qC (hA:=fun v5=>qG (hA:=qG (hA:=qN (hA:=fun v6=>qN (hA:=fun v7=>qB (Mn ()))))))))))))
@[reducible,instance] def i_frac_New x0 x1:=Lw.mk (Q4t x0 x1)
def G4(x0:Qb)(x1:gVal):Option (gVal×Int):=
 Kd x0 [x1]>>=fun v0=>
 if v0 !=0 then
 some ((gVal.mk (0:Int) (0:Int)))>>=fun v1=>
 some (v1,v0)
 else
 if 0≤x0.fB then
 Jk x1.fN (wr ((1:Int)*(2:Int)^min x0.fB.toNat (64:Nat)))>>=fun v2=>
 some (v2.fst,v2.snd)
 else none
theorem FQ(x0 x1 r)(h:G4 x0 x1=some r):PU 346 [Qm x0,Qd x1] (Qs r):=
 Pu4 (hs:=[(10,.c eI),(12,.split),(13,.n Qd 13 none),(19,.s),(20,.c Qs)]) (G4.eq_1 x0 x1) h
@[reducible,instance] def Qbl x0 x1:=Lw.mk (FQ x0 x1)
def JU(x0:Qb)(x1:gVal):Option gVal:=
 if x0.fx==2 then
 G4 x0 x1>>=fun v0=>
 some v0.fst
 else
 some x1
theorem SO(x0 x1 r)(h:JU x0 x1=some r):PU 294 [Qm x0,Qd x1] (Qd r):=
 Pu4 (hs:=[(9,.split),(13,.c Qs)]) (JU.eq_1 x0 x1) h
@[reducible,instance] def Q96 x0 x1:=Lw.mk (SO x0 x1)
abbrev No(s:Unit)(u:Unit)(o:Int):List Alt:=[⟨fun(x:Int)=>x=o,.normal,fun x=>[ii x],fun x=>[]⟩]
def DV(x0:gVal):Option Int:=
 Zz x0>>=fun v0=>if v0 then
 if x0.fD≠0 then
 some (wr (x0.fN.tdiv x0.fD):Int)>>=fun v1=>
 some ()>>=fun v2=>
 (if x0.fD≠0 then
 if x0.fN.tmod x0.fD<0 then
 some (wr (v1 - (1:Int)):Int)>>=fun v4=>
 some v4
 else
 some v1
 else none)>>=fun v5=>
 some v5
 else none
 else
 some (0:Int)
theorem Bo(x0 r)(h:DV x0=some r):PU 295 [Qd x0] (eI r):=
 Pu4 (hs:=[(5,.cb),(11,.s),(3,.n eI 3 none),(16,.s),(17,.split),(6000006,.l [] [] [] [3] [] (No ()))]) (DV.eq_1 x0) h (q:=qC (hA:=fun _=>qIf (hA:=qG (hA:=qN (hA:=fun v1=>qJ (No ()))))))
@[reducible,instance] def i_frac_Floor x0:=Lw.mk (Bo x0)
def G9(x0:Int):Option Bool:=
 if 1≤x0 then
 some (decide (x0≤4))
 else
 some false
theorem Bt(x0 r)(h:G9 x0=some r):PU 386 [eI x0] (eB r):=
 Pu4 (hs:=[(4,.split)]) (G9.eq_1 x0) h
@[reducible,instance] def i_round_mode x0:=Lw.mk (Bt x0)
def Va(x0:Int):Option Int:=
 if x0<0 then
 some (w6 ((0:Int) - w6 x0))
 else
 some (w6 x0)
theorem TV(x0 r)(h:Va x0=some r):PU 404 [eI x0] (eU64 r):=
 Pu4 (hs:=[(4,.split)]) (Va.eq_1 x0) h
@[reducible,instance] def Q8i x0:=Lw.mk (TV x0)
def US(x0:Int)(x1:Int)(x2:Bool):Option Int:=
 if x1≠0 then
 if x1≠0 then
 some (w6 (x0.tdiv x1):Int)>>=fun v0=>
 some (x0.tmod x1:Int)>>=fun v1=>
 some ((HE.mk v0 (w6 (v0+1))))>>=fun v2=>
 if v1==0 then
 some v2.f_0
 else
 if !x2 then
 some v2.f_0
 else
 if false then
 some v2.f_0
 else
 if v1==0 then
 some v2.f_1
 else
 if !x2 then
 some v2.f_1
 else
 if false then
 some v2.f_1
 else
 some v2.f_1
 else none
 else none
theorem TW(x0 x1 x2 r)(h:US x0 x1 x2=some r):PU 403 [eU64 x0,eU64 x1,eB x2,eI (1:Int)] (eU64 r):=
 Pu4 (hs:=[(14,.s),(17,.s),(9,.n eU64 9 none),(10,.n eU64 10 none),(22,.n HC 22 none),(28,.split),(33,.split),(33,.split),(52,.split),(57,.split),(60,.s),(61,.split)]) (US.eq_1 x0 x1 x2) h
def UT(x0:Int)(x1:Int)(x2:Bool):Option Int:=
 if x1≠0 then
 if x1≠0 then
 some (w6 (x0.tdiv x1):Int)>>=fun v0=>
 some (x0.tmod x1:Int)>>=fun v1=>
 some ((HE.mk v0 (w6 (v0+1))))>>=fun v2=>
 if v1==0 then
 some v2.f_0
 else
 if false then
 some v2.f_0
 else
 if x2 then
 some v2.f_0
 else
 if v1==0 then
 some v2.f_1
 else
 if false then
 some v2.f_1
 else
 if x2 then
 some v2.f_1
 else
 some v2.f_1
 else none
 else none
theorem TX(x0 x1 x2 r)(h:UT x0 x1 x2=some r):PU 403 [eU64 x0,eU64 x1,eB x2,eI (2:Int)] (eU64 r):=
 Pu4 (hs:=[(14,.s),(17,.s),(9,.n eU64 9 none),(10,.n eU64 10 none),(22,.n HC 22 none),(28,.split),(33,.split),(33,.split),(52,.split),(57,.split),(60,.s),(61,.split)]) (UT.eq_1 x0 x1 x2) h
def UU(x0:Int)(x1:Int)(x2:Bool):Option Int:=
 if x1≠0 then
 if x1≠0 then
 some (w6 (x0.tdiv x1):Int)>>=fun v0=>
 some (x0.tmod x1:Int)>>=fun v1=>
 some ((HE.mk v0 (w6 (v0+1))))>>=fun v2=>
 if v1==0 then
 some v2.f_0
 else
 some v2.f_0
 else none
 else none
theorem TY(x0 x1 x2 r)(h:UU x0 x1 x2=some r):PU 403 [eU64 x0,eU64 x1,eB x2,eI (3:Int)] (eU64 r):=
 Pu4 (hs:=[(14,.s),(17,.s),(9,.n eU64 9 none),(10,.n eU64 10 none),(22,.n HC 22 none),(28,.split),(33,.split),(33,.split),(52,.split),(57,.split),(60,.s),(61,.split)]) (UU.eq_1 x0 x1 x2) h
def UV(x0:Int)(x1:Int)(x2:Bool):Option Int:=
 if x1≠0 then
 if x1≠0 then
 some (w6 (x0.tdiv x1):Int)>>=fun v0=>
 some (x0.tmod x1:Int)>>=fun v1=>
 some ((HE.mk v0 (w6 (v0+1))))>>=fun v2=>
 if v1==0 then
 some v2.f_0
 else
 if false then
 some v2.f_0
 else
 if false then
 some v2.f_0
 else
 if w6 ((2:Int)*v1)<x1 then
 some v2.f_0
 else
 if w6 ((2:Int)*v1)==x1 then
 if(2:Int)≠0 then
 if v0.tmod (2:Int)==0 then
 some v2.f_0
 else
 if v1==0 then
 some v2.f_1
 else
 if false then
 some v2.f_1
 else
 if false then
 some v2.f_1
 else
 if w6 ((2:Int)*v1)<x1 then
 some v2.f_1
 else
 if w6 ((2:Int)*v1)==x1 then
 if(2:Int)≠0 then
 if v0.tmod (2:Int)==0 then
 some v2.f_1
 else
 some v2.f_1
 else none
 else
 some v2.f_1
 else none
 else
 if v1==0 then
 some v2.f_1
 else
 if false then
 some v2.f_1
 else
 if false then
 some v2.f_1
 else
 if w6 ((2:Int)*v1)<x1 then
 some v2.f_1
 else
 if w6 ((2:Int)*v1)==x1 then
 if(2:Int)≠0 then
 if v0.tmod (2:Int)==0 then
 some v2.f_1
 else
 some v2.f_1
 else none
 else
 some v2.f_1
 else none
 else none
theorem TZ(x0 x1 x2 r)(h:UV x0 x1 x2=some r):PU 403 [eU64 x0,eU64 x1,eB x2,eI (4:Int)] (eU64 r):=
 Pu4 (hs:=[(14,.s),(17,.s),(9,.n eU64 9 none),(10,.n eU64 10 none),(22,.n HC 22 none),(28,.split),(33,.split),(33,.split),(52,.split),(57,.split),(60,.s),(61,.split)]) (UV.eq_1 x0 x1 x2) h
def Uw(x0:Int)(x1:Int)(x2:Bool)(x3:Int):Option Int:=
 if x3=1 then US x0 x1 x2 else
 if x3=2 then UT x0 x1 x2 else
 if x3=3 then UU x0 x1 x2 else
 if x3=4 then UV x0 x1 x2 else none
theorem AC(x0 x1 x2 x3 r)(h:Uw x0 x1 x2 x3=some r):PU 403 [eU64 x0,eU64 x1,eB x2,eI x3] (eU64 r):=by
 unfold Uw at h;by_cases h1:x3=1;·subst h1;rw[if_pos rfl] at h;exact TW x0 x1 x2 r h
 rw[if_neg h1] at h;by_cases h2:x3=2;·subst h2;rw[if_pos rfl] at h;exact TX x0 x1 x2 r h
 rw[if_neg h2] at h;by_cases h3:x3=3;·subst h3;rw[if_pos rfl] at h;exact TY x0 x1 x2 r h
 rw[if_neg h3] at h;by_cases h4:x3=4;·subst h4;rw[if_pos rfl] at h;exact TZ x0 x1 x2 r h
 rw[if_neg h4] at h;cases h
@[reducible,instance] def Qbf x0 x1 x2 x3:=Lw.mk (AC x0 x1 x2 x3)
def Vu(x0:Int)(x1:Int)(x2:Int):Option (Int×Int):=
 G9 x2>>=fun v0=>if v0 then
 if x1==0 then
 some ((0:Int),(4:Int))
 else
 Va x0>>=fun v1=>
 Va x1>>=fun v2=>
 Uw v1 v2 (!decide (x0<0)==decide (x1<0)) x2>>=fun v3=>
 if !decide (x0<0)==decide (x1<0) then
 some ((wr (w6 ((0:Int) - v3))),(0:Int))
 else
 if 9223372036854775808≤v3 then
 some ((0:Int),(3:Int))
 else
 some ((wr v3),(0:Int))
 else
 some ((0:Int),(1:Int))
theorem P0(x0 x1 x2 r)(h:Vu x0 x1 x2=some r):PU 387 [eI x0,eI x1,eI x2] (Vn r):=
 Pu4 (hs:=[(11,.cb),(14,.split),(21,.c eU64),(23,.c eU64),(26,.c eU64),(27,.split),(32,.split)]) (Vu.eq_1 x0 x1 x2) h
@[reducible,instance] def Qbu x0 x1 x2:=Lw.mk (P0 x0 x1 x2)
abbrev Dy(s:(Int×Int×gVal))(u:Unit)(o:Bool):List Alt:=jb o (fun b=>[ii (s.1),ii (s.2.1),.ptr 0 0 0,.bool b]) [.cells 0 (Qd (s.2.2)).cells]
def JR(x0:gVal)(x1:Int)(x2:Int):Option (Int×Int):=
 some ()>>=fun v0=>
 (Zz x0>>=fun v2=>if v2 then
 if x1<0 then
 some true
 else
 if 30<x1 then
 some true
 else
 G9 x2>>=fun v3=>if v3 then
 some false
 else
 some true
 else
 some true)>>=fun v1=>if v1 then
 some ((0:Int),(1:Int))
 else
 if 0≤w6 x1 then
 Vu (wr (x0.fN*(2:Int)^min (w6 x1).toNat (64:Nat))) x0.fD x2>>=fun v6=>
 some (v6.fst,v6.snd)
 else none
theorem SL(x0 x1 x2 r)(h:JR x0 x1 x2=some r):PU 347 [Qd x0,eI x1,eI x2] (Vn r):=
 Pu4 (hs:=[(9,.cb),(13,.split),(17,.split),(21,.cb),(28,.s),(32,.c Vn),(5000001,.l [] [] [] [1,2,3,23] [kk 3] (Dy (x1,x2,x0)))]) (JR.eq_1 x0 x1 x2) h (q:=qB (Dy (x1,x2,x0)))
@[reducible,instance] def Q94 x0 x1 x2:=Lw.mk (SL x0 x1 x2)
abbrev CU(s:(Int×Int×Int))(u:Unit)(o:Bool):List Alt:=jb o (fun b=>[ii (s.1),ii (s.2.1),ii (s.2.2),.bool b]) []
abbrev CV(s:(Int×Int×Int))(u:(Int×Int))(o:Bool):List Alt:=jb o (fun b=>[ii (s.1),ii (s.2.1),ii (s.2.2),ii (u.1),ii (u.2),.bool b]) []
abbrev CW(s:(Int×Int×Int))(u:(Int×Int))(o:Bool):List Alt:=jb o (fun b=>[ii (s.1),ii (s.2.1),ii (s.2.2),ii (u.1),ii (u.2),.bool b]) []
def G8(x0:Int)(x1:Int)(x2:Int):Option (Int×Bool):=
 some ()>>=fun v0=>
 (Vd x1>>=fun v2=>if v2 then
 if x2 !=1 then
 if x2 !=2 then
 some true
 else
 some false
 else
 some false
 else
 some true)>>=fun v1=>if v1 then
 some ((0:Int),false)
 else
 Vw x1>>=fun v5=>
 Vv x1>>=fun v6=>
 some (v5,v6)>>=fun v7=>
 (if v5≤x0 then
 if x0≤v6 then
 some true
 else
 some false
 else
 some false)>>=fun v8=>if v8 then
 some (x0,false)
 else
 some (v7.fst,v7.snd)>>=fun a4=>
 (if x2==1 then
 if x0<v7.fst then
 some true
 else
 some false
 else
 some false)>>=fun a8=>if a8 then
 some (a4.fst,true)
 else
 if x2==1 then
 some (a4.snd,true)
 else
 some (w6 (wr ((64:Int) - x1)):Int)>>=fun a3=>
 if 0≤a3 then
 if 0≤a3 then
 some (((wr (w6 (w6 x0*(2:Int)^min a3.toNat (64:Nat)))).fdiv ((2:Int)^min a3.toNat (64:Nat))),true)
 else none
 else none
theorem P3(x0 x1 x2 r)(h:G8 x0 x1 x2=some r):PU 388 [eI x0,eI x1,eI x2] (Wz r):=
 Pu4 (hs:=[(12,.cb),(16,.split),(19,.split),(23,.c eI),(25,.c eI),(29,.split),(33,.split),(38,.split),(42,.split),(47,.split),(10,.n eU64 10 none),(55,.s),(58,.s),(5000001,.l [] [] [] [0,1,2,21] [] (CU (x0,x1,x2))),(5000004,.l [] [] [] [0,1,2,8,9,26] [] (CV (x0,x1,x2))),(5000006,.l [] [] [] [0,1,2,8,9,36] [] (CW (x0,x1,x2)))]) (G8.eq_1 x0 x1 x2) h (q:=qB (CU (x0,x1,x2)) (hB:=fun v0=>qC (hA:=fun v5=>qC (hA:=fun v6=>qB (CV (x0,x1,x2)) (hB:=fun v7=>qB (CW (x0,x1,x2)))))))
@[reducible,instance] def Qbx x0 x1 x2:=Lw.mk (P3 x0 x1 x2)
def YE(x0:Qb)(x1:Int):Option gVal:=
 G8 x1 x0.fA x0.fC>>=fun v0=>
 some ((gVal.mk v0.fst (1:Int)))>>=fun v1=>
 some v1
theorem FR(x0 x1 r)(h:YE x0 x1=some r):PU 348 [Qm x0,eI x1] (Qd r):=
 Pu4 (hs:=[(13,.c Wz),(17,.n Qd 17 none)]) (YE.eq_1 x0 x1) h
@[reducible,instance] def Qbm x0 x1:=Lw.mk (FR x0 x1)
abbrev Dp(s:Qb)(u:(gVal×Int))(o:Bool):List Alt:=jb o (fun b=>[.ptr 0 0 0,.ptr 1 0 0,ii (u.2),.bool b]) [.cells 0 (Qm s).cells,.cells 0 (Qd (u.1)).cells]
def JI(x0:Qb)(x1:gVal):Option (gVal×Int):=
 Zy x0>>=fun v0=>
 if v0 !=0 then
 some ((gVal.mk (0:Int) (0:Int)))>>=fun v1=>
 some (v1,v0)
 else
 JR x1 x0.fB x0.fy>>=fun v2=>
 some ((gVal.mk (0:Int) (0:Int)),v2.fst)>>=fun v3=>
 (if v2.snd !=0 then
 some true
 else
 Zz x1>>=fun v5=>if v5 then
 some false
 else
 some true)>>=fun v4=>if v4 then
 some ((gVal.mk (0:Int) (0:Int)))>>=fun v7=>
 some (v7,(1:Int))
 else
 YE x0 v3.snd>>=fun v9=>
 some (v9,(0:Int))
theorem SD(x0 x1 r)(h:JI x0 x1=some r):PU 296 [Qm x0,Qd x1] (Qs r):=
 Pu4 (hs:=[(10,.c eI),(12,.split),(13,.n Qd 13 none),(21,.c Vn),(25,.split),(28,.cb),(31,.n Qd 31 none),(34,.c Qd),(5000005,.l [] [] [] [2,4,7,30] [kk 2,kk 4] (Dp x0))]) (JI.eq_1 x0 x1) h (q:=qC (hA:=fun v0=>qIf (hB:=qC (hA:=fun v2=>qB (Dp x0)))))
@[reducible,instance] def Q8y x0 x1:=Lw.mk (SD x0 x1)
abbrev DO(s:Unit)(u:(gVal×Int))(o:Bool):List Alt:=jb o (fun b=>[.ptr 0 0 0,ii (u.2),.bool b]) [.cells 0 (Qd (u.1)).cells]
def Ux(x0:Int)(x1:Int)(x2:Int):Option (gVal×Int):=
 some ((0:Int):Int)>>=fun v0=>
 if x0==4 then
 some (wr (x1+x2):Int)>>=fun v1=>
 Yz v1>>=fun v2=>if v2 then
 some ((gVal.mk v1 (1:Int)))>>=fun v3=>
 some (v3,(0:Int))
 else
 some ((gVal.mk (0:Int) (0:Int)))>>=fun v4=>
 some (v4,(3:Int))
 else
 if x0==5 then
 some (wr (x1 - x2):Int)>>=fun v5=>
 Yz v5>>=fun v6=>if v6 then
 some ((gVal.mk v5 (1:Int)))>>=fun v7=>
 some (v7,(0:Int))
 else
 some ((gVal.mk (0:Int) (0:Int)))>>=fun v8=>
 some (v8,(3:Int))
 else
 if x0==6 then
 some (wr (x1*x2):Int)>>=fun v9=>
 Yz v9>>=fun a7=>if a7 then
 some ((gVal.mk v9 (1:Int)))>>=fun a8=>
 some (a8,(0:Int))
 else
 some ((gVal.mk (0:Int) (0:Int)))>>=fun a9=>
 some (a9,(3:Int))
 else
 if x2==0 then
 some ((gVal.mk (0:Int) (0:Int)))>>=fun aa=>
 some (aa,(4:Int))
 else
 if x2≠0 then
 some (wr (x1.tdiv x2):Int)>>=fun ab=>
 some ((gVal.mk (0:Int) (0:Int)),ab)>>=fun a4=>
 (if x2≠0 then
 if x1.tmod x2 !=0 then
 if !decide (x1<0)==decide (x2<0) then
 some true
 else
 some false
 else
 some false
 else none)>>=fun ad=>if ad then
 some (wr (a4.snd - (1:Int)):Int)>>=fun a6=>
 Yz a6>>=fun ae=>if ae then
 some ((gVal.mk a6 (1:Int)))>>=fun af=>
 some (af,(0:Int))
 else
 some ((gVal.mk (0:Int) (0:Int)))>>=fun ag=>
 some (ag,(3:Int))
 else
 Yz a4.snd>>=fun ah=>if ah then
 some ((gVal.mk a4.snd (1:Int)))>>=fun ai=>
 some (ai,(0:Int))
 else
 some ((gVal.mk (0:Int) (0:Int)))>>=fun aj=>
 some (aj,(3:Int))
 else none
theorem AF(x0 x1 x2 r)(h:Ux x0 x1 x2=some r):PU 350 [eI x0,eI x1,eI x2] (Qs r):=
 Pu4 (hs:=[(30,.split),(8,.n eI 8 none),(35,.split),(8,.n eI 8 none),(40,.split),(8,.n eI 8 none),(11,.split),(12,.n Qd 12 none),(15,.s),(8,.n eI 8 none),(18,.s),(19,.split),(25,.split),(45,.cb),(47,.n Qd 47 none),(49,.n Qd 49 none),(5000006,.l [] [] [] [6,8,26] [kk 6] (DO ()))]) (Ux.eq_1 x0 x1 x2) h (q:=qN (hA:=fun v0=>qIf (hB:=qIf (hB:=qIf (hB:=qIf (hB:=qG (hA:=qN (hA:=fun a3=>qB (DO ())))))))))
@[reducible,instance] def Qbh x0 x1 x2:=Lw.mk (AF x0 x1 x2)
abbrev Mk(s:(gVal×gVal))(u:gVal)(o:Bool):List Alt:=jb o (fun b=>[.ptr 0 0 0,.ptr 1 0 0,.ptr 2 0 0,.bool b]) [.cells 0 (Qd (s.1)).cells,.cells 0 (Qd (s.2)).cells,.cells 0 (Qd u).cells]
def NI(x0:gVal)(x1:gVal):Option (gVal×Int):=
 some (gVal.mk (0:Int) (0:Int))>>=fun v0=>
 (Zz x0>>=fun v2=>if v2 then
 Zz x1>>=fun v3=>if v3 then
 some false
 else
 some true
 else
 some true)>>=fun v1=>if v1 then
 some ((gVal.mk (0:Int) (0:Int)))>>=fun v5=>
 some (v5,(1:Int))
 else
 Jk (wr (wr (x0.fN*x1.fD)+wr (x1.fN*x0.fD))) (wr (x0.fD*x1.fD))>>=fun v7=>
 some (v7.fst,v7.snd)
theorem Q4q(x0 x1 r)(h:NI x0 x1=some r):PU 355 [Qd x0,Qd x1] (Qs r):=
 Pu4 (hs:=[(7,.cb),(11,.cb),(14,.n Qd 14 none),(31,.c Qs),(5000001,.l [] [] [] [2,3,4,13] [kk 2,kk 3,kk 4] (Mk (x0,x1)))]) (NI.eq_1 x0 x1) h (q:=qB (Mk (x0,x1)))
@[reducible,instance] def i_frac_Add x0 x1:=Lw.mk (Q4q x0 x1)
abbrev Mo(s:(gVal×gVal))(u:gVal)(o:Bool):List Alt:=jb o (fun b=>[.ptr 0 0 0,.ptr 1 0 0,.ptr 2 0 0,.bool b]) [.cells 0 (Qd (s.1)).cells,.cells 0 (Qd (s.2)).cells,.cells 0 (Qd u).cells]
def NL(x0:gVal)(x1:gVal):Option (gVal×Int):=
 some (gVal.mk (0:Int) (0:Int))>>=fun v0=>
 (Zz x0>>=fun v2=>if v2 then
 Zz x1>>=fun v3=>if v3 then
 some false
 else
 some true
 else
 some true)>>=fun v1=>if v1 then
 some ((gVal.mk (0:Int) (0:Int)))>>=fun v5=>
 some (v5,(1:Int))
 else
 Jk (wr (wr (x0.fN*x1.fD) - wr (x1.fN*x0.fD))) (wr (x0.fD*x1.fD))>>=fun v7=>
 some (v7.fst,v7.snd)
theorem Q4u(x0 x1 r)(h:NL x0 x1=some r):PU 356 [Qd x0,Qd x1] (Qs r):=
 Pu4 (hs:=[(7,.cb),(11,.cb),(14,.n Qd 14 none),(31,.c Qs),(5000001,.l [] [] [] [2,3,4,13] [kk 2,kk 3,kk 4] (Mo (x0,x1)))]) (NL.eq_1 x0 x1) h (q:=qB (Mo (x0,x1)))
@[reducible,instance] def i_frac_Sub x0 x1:=Lw.mk (Q4u x0 x1)
abbrev Mm(s:(gVal×gVal))(u:gVal)(o:Bool):List Alt:=jb o (fun b=>[.ptr 0 0 0,.ptr 1 0 0,.ptr 2 0 0,.bool b]) [.cells 0 (Qd (s.1)).cells,.cells 0 (Qd (s.2)).cells,.cells 0 (Qd u).cells]
def NK(x0:gVal)(x1:gVal):Option (gVal×Int):=
 some (gVal.mk (0:Int) (0:Int))>>=fun v0=>
 (Zz x0>>=fun v2=>if v2 then
 Zz x1>>=fun v3=>if v3 then
 some false
 else
 some true
 else
 some true)>>=fun v1=>if v1 then
 some ((gVal.mk (0:Int) (0:Int)))>>=fun v5=>
 some (v5,(1:Int))
 else
 Jk (wr (x0.fN*x1.fN)) (wr (x0.fD*x1.fD))>>=fun v7=>
 some (v7.fst,v7.snd)
theorem Q4s(x0 x1 r)(h:NK x0 x1=some r):PU 357 [Qd x0,Qd x1] (Qs r):=
 Pu4 (hs:=[(7,.cb),(11,.cb),(14,.n Qd 14 none),(25,.c Qs),(5000001,.l [] [] [] [2,3,4,13] [kk 2,kk 3,kk 4] (Mm (x0,x1)))]) (NK.eq_1 x0 x1) h (q:=qB (Mm (x0,x1)))
@[reducible,instance] def i_frac_Mul x0 x1:=Lw.mk (Q4s x0 x1)
abbrev Ml(s:(gVal×gVal))(u:gVal)(o:Bool):List Alt:=jb o (fun b=>[.ptr 0 0 0,.ptr 1 0 0,.ptr 2 0 0,.bool b]) [.cells 0 (Qd (s.1)).cells,.cells 0 (Qd (s.2)).cells,.cells 0 (Qd u).cells]
def NJ(x0:gVal)(x1:gVal):Option (gVal×Int):=
 some (gVal.mk (0:Int) (0:Int))>>=fun v0=>
 (Zz x0>>=fun v2=>if v2 then
 Zz x1>>=fun v3=>if v3 then
 some false
 else
 some true
 else
 some true)>>=fun v1=>if v1 then
 some ((gVal.mk (0:Int) (0:Int)))>>=fun v5=>
 some (v5,(1:Int))
 else
 Jk (wr (x0.fN*x1.fD)) (wr (x0.fD*x1.fN))>>=fun v7=>
 some (v7.fst,v7.snd)
theorem Q4r(x0 x1 r)(h:NJ x0 x1=some r):PU 358 [Qd x0,Qd x1] (Qs r):=
 Pu4 (hs:=[(7,.cb),(11,.cb),(14,.n Qd 14 none),(25,.c Qs),(5000001,.l [] [] [] [2,3,4,13] [kk 2,kk 3,kk 4] (Ml (x0,x1)))]) (NJ.eq_1 x0 x1) h (q:=qB (Ml (x0,x1)))
@[reducible,instance] def i_frac_Div x0 x1:=Lw.mk (Q4r x0 x1)
def WS(x0:Qb)(x1:Int)(x2:Int):Option (Int×Int):=
 some ((wr ((0:Int) - x1)),(0:Int))
theorem Oq(x0 x1 x2 r)(h:WS x0 x1 x2=some r):PU 390 [Qm x0,eI x1,eI x2] (Vn r):=
 Pu4 (hs:=[]) (WS.eq_1 x0 x1 x2) h
@[reducible,instance] def Qc5 x0 x1 x2:=Lw.mk (Oq x0 x1 x2)
def WO(x0:Qb)(x1:Int)(x2:Int):Option (Int×Int):=
 some ((wr (x1+x2)),(0:Int))
theorem Om(x0 x1 x2 r)(h:WO x0 x1 x2=some r):PU 391 [Qm x0,eI x1,eI x2] (Vn r):=
 Pu4 (hs:=[]) (WO.eq_1 x0 x1 x2) h
@[reducible,instance] def Qc2 x0 x1 x2:=Lw.mk (Om x0 x1 x2)
def WT(x0:Qb)(x1:Int)(x2:Int):Option (Int×Int):=
 some ((wr (x1 - x2)),(0:Int))
theorem Ou(x0 x1 x2 r)(h:WT x0 x1 x2=some r):PU 392 [Qm x0,eI x1,eI x2] (Vn r):=
 Pu4 (hs:=[]) (WT.eq_1 x0 x1 x2) h
@[reducible,instance] def Qc6 x0 x1 x2:=Lw.mk (Ou x0 x1 x2)
def WQ(x0:Qb)(x1:Int)(x2:Int):Option (Int×Int):=
 if 0≤x0.fB then
 Vu (wr (x1*x2)) (wr ((1:Int)*(2:Int)^min x0.fB.toNat (64:Nat))) x0.fy>>=fun v0=>
 some (v0.fst,v0.snd)
 else none
theorem Oo(x0 x1 x2 r)(h:WQ x0 x1 x2=some r):PU 393 [Qm x0,eI x1,eI x2] (Vn r):=
 Pu4 (hs:=[(13,.s),(16,.c Vn)]) (WQ.eq_1 x0 x1 x2) h
@[reducible,instance] def Qc4 x0 x1 x2:=Lw.mk (Oo x0 x1 x2)
def WP(x0:Qb)(x1:Int)(x2:Int):Option (Int×Int):=
 if 0≤x0.fB then
 Vu (wr (x1*(2:Int)^min x0.fB.toNat (64:Nat))) x2 x0.fy>>=fun v0=>
 some (v0.fst,v0.snd)
 else none
theorem On(x0 x1 x2 r)(h:WP x0 x1 x2=some r):PU 394 [Qm x0,eI x1,eI x2] (Vn r):=
 Pu4 (hs:=[(11,.s),(15,.c Vn)]) (WP.eq_1 x0 x1 x2) h
@[reducible,instance] def Qc3 x0 x1 x2:=Lw.mk (On x0 x1 x2)
end Go.Proofs.YtkgphhemcglgnaaGreatDoor
noncomputable section
namespace Go.Proofs.YtkgphhemcglgnaaGreatDoor
open Go HY
set_option maxRecDepth 1000000
def Uo(x1:Qb)(x2:gVal)(x3:gVal):Option (gVal×Int):=
 Kd x1 [x2,x3]>>=fun v0=>
 if v0 !=0 then
 some ((gVal.mk (0:Int) (0:Int)))>>=fun v1=>
 some (v1,v0)
 else
 WS x1 x2.fN x3.fN>>=fun v2=>
 if v2.snd !=0 then
 some ((gVal.mk (0:Int) (0:Int)))>>=fun v3=>
 some (v3,v2.snd)
 else
 YE x1 v2.fst>>=fun v4=>
 some (v4,(0:Int))
theorem Rd(x1 x2 x3 r)(h:Uo x1 x2 x3=some r):PU 389 [.agg [.fn 390 []],Qm x1,Qd x2,Qd x3] (Qs r):=
 Pu4 (hs:=[(17,.c eI),(19,.split),(20,.n Qd 20 none),(30,.c Vn),(34,.split),(35,.n Qd 35 none),(39,.c Qd)]) (Uo.eq_1 x1 x2 x3) h
@[reducible,instance] def Q6q x1 x2 x3:=Lw.mk (Rd x1 x2 x3)
def Wp(x0:Qb)(x1:gVal):Option (gVal×Int):=
 Uo x0 x1 x1>>=fun v0=>
 some (v0.fst,v0.snd)
theorem Q21(x0 x1 r)(h:Wp x0 x1=some r):PU 349 [Qm x0,Qd x1] (Qs r):=
 Pu4 (hs:=[(10,.c Qs)]) (Wp.eq_1 x0 x1) h
@[reducible,instance] def i_fixed_Neg x0 x1:=Lw.mk (Q21 x0 x1)
def Up(x1:Qb)(x2:gVal)(x3:gVal):Option (gVal×Int):=
 Kd x1 [x2,x3]>>=fun v0=>
 if v0 !=0 then
 some ((gVal.mk (0:Int) (0:Int)))>>=fun v1=>
 some (v1,v0)
 else
 WO x1 x2.fN x3.fN>>=fun v2=>
 if v2.snd !=0 then
 some ((gVal.mk (0:Int) (0:Int)))>>=fun v3=>
 some (v3,v2.snd)
 else
 YE x1 v2.fst>>=fun v4=>
 some (v4,(0:Int))
theorem Re(x1 x2 x3 r)(h:Up x1 x2 x3=some r):PU 389 [.agg [.fn 391 []],Qm x1,Qd x2,Qd x3] (Qs r):=
 Pu4 (hs:=[(17,.c eI),(19,.split),(20,.n Qd 20 none),(30,.c Vn),(34,.split),(35,.n Qd 35 none),(39,.c Qd)]) (Up.eq_1 x1 x2 x3) h
@[reducible,instance] def Q6r x1 x2 x3:=Lw.mk (Re x1 x2 x3)
def Wm(x0:Qb)(x1:gVal)(x2:gVal):Option (gVal×Int):=
 Up x0 x1 x2>>=fun v0=>
 some (v0.fst,v0.snd)
theorem Q1y(x0 x1 x2 r)(h:Wm x0 x1 x2=some r):PU 351 [Qm x0,Qd x1,Qd x2] (Qs r):=
 Pu4 (hs:=[(12,.c Qs)]) (Wm.eq_1 x0 x1 x2) h
@[reducible,instance] def i_fixed_Add x0 x1 x2:=Lw.mk (Q1y x0 x1 x2)
def Uq(x1:Qb)(x2:gVal)(x3:gVal):Option (gVal×Int):=
 Kd x1 [x2,x3]>>=fun v0=>
 if v0 !=0 then
 some ((gVal.mk (0:Int) (0:Int)))>>=fun v1=>
 some (v1,v0)
 else
 WT x1 x2.fN x3.fN>>=fun v2=>
 if v2.snd !=0 then
 some ((gVal.mk (0:Int) (0:Int)))>>=fun v3=>
 some (v3,v2.snd)
 else
 YE x1 v2.fst>>=fun v4=>
 some (v4,(0:Int))
theorem Rf(x1 x2 x3 r)(h:Uq x1 x2 x3=some r):PU 389 [.agg [.fn 392 []],Qm x1,Qd x2,Qd x3] (Qs r):=
 Pu4 (hs:=[(17,.c eI),(19,.split),(20,.n Qd 20 none),(30,.c Vn),(34,.split),(35,.n Qd 35 none),(39,.c Qd)]) (Uq.eq_1 x1 x2 x3) h
@[reducible,instance] def Q6s x1 x2 x3:=Lw.mk (Rf x1 x2 x3)
def Wq(x0:Qb)(x1:gVal)(x2:gVal):Option (gVal×Int):=
 Uq x0 x1 x2>>=fun v0=>
 some (v0.fst,v0.snd)
theorem Q22(x0 x1 x2 r)(h:Wq x0 x1 x2=some r):PU 352 [Qm x0,Qd x1,Qd x2] (Qs r):=
 Pu4 (hs:=[(12,.c Qs)]) (Wq.eq_1 x0 x1 x2) h
@[reducible,instance] def i_fixed_Sub x0 x1 x2:=Lw.mk (Q22 x0 x1 x2)
def Ur(x1:Qb)(x2:gVal)(x3:gVal):Option (gVal×Int):=
 Kd x1 [x2,x3]>>=fun v0=>
 if v0 !=0 then
 some ((gVal.mk (0:Int) (0:Int)))>>=fun v1=>
 some (v1,v0)
 else
 WQ x1 x2.fN x3.fN>>=fun v2=>
 if v2.snd !=0 then
 some ((gVal.mk (0:Int) (0:Int)))>>=fun v3=>
 some (v3,v2.snd)
 else
 YE x1 v2.fst>>=fun v4=>
 some (v4,(0:Int))
theorem Rg(x1 x2 x3 r)(h:Ur x1 x2 x3=some r):PU 389 [.agg [.fn 393 []],Qm x1,Qd x2,Qd x3] (Qs r):=
 Pu4 (hs:=[(17,.c eI),(19,.split),(20,.n Qd 20 none),(30,.c Vn),(34,.split),(35,.n Qd 35 none),(39,.c Qd)]) (Ur.eq_1 x1 x2 x3) h
@[reducible,instance] def Q6t x1 x2 x3:=Lw.mk (Rg x1 x2 x3)
def Wo(x0:Qb)(x1:gVal)(x2:gVal):Option (gVal×Int):=
 Ur x0 x1 x2>>=fun v0=>
 some (v0.fst,v0.snd)
theorem Q20(x0 x1 x2 r)(h:Wo x0 x1 x2=some r):PU 353 [Qm x0,Qd x1,Qd x2] (Qs r):=
 Pu4 (hs:=[(12,.c Qs)]) (Wo.eq_1 x0 x1 x2) h
@[reducible,instance] def i_fixed_Mul x0 x1 x2:=Lw.mk (Q20 x0 x1 x2)
def Us(x1:Qb)(x2:gVal)(x3:gVal):Option (gVal×Int):=
 Kd x1 [x2,x3]>>=fun v0=>
 if v0 !=0 then
 some ((gVal.mk (0:Int) (0:Int)))>>=fun v1=>
 some (v1,v0)
 else
 WP x1 x2.fN x3.fN>>=fun v2=>
 if v2.snd !=0 then
 some ((gVal.mk (0:Int) (0:Int)))>>=fun v3=>
 some (v3,v2.snd)
 else
 YE x1 v2.fst>>=fun v4=>
 some (v4,(0:Int))
theorem Rh(x1 x2 x3 r)(h:Us x1 x2 x3=some r):PU 389 [.agg [.fn 394 []],Qm x1,Qd x2,Qd x3] (Qs r):=
 Pu4 (hs:=[(17,.c eI),(19,.split),(20,.n Qd 20 none),(30,.c Vn),(34,.split),(35,.n Qd 35 none),(39,.c Qd)]) (Us.eq_1 x1 x2 x3) h
@[reducible,instance] def Q6u x1 x2 x3:=Lw.mk (Rh x1 x2 x3)
def Wn(x0:Qb)(x1:gVal)(x2:gVal):Option (gVal×Int):=
 Us x0 x1 x2>>=fun v0=>
 some (v0.fst,v0.snd)
theorem Q1z(x0 x1 x2 r)(h:Wn x0 x1 x2=some r):PU 354 [Qm x0,Qd x1,Qd x2] (Qs r):=
 Pu4 (hs:=[(12,.c Qs)]) (Wn.eq_1 x0 x1 x2) h
@[reducible,instance] def i_fixed_Div x0 x1 x2:=Lw.mk (Q1z x0 x1 x2)
end Go.Proofs.YtkgphhemcglgnaaGreatDoor
noncomputable section
namespace Go.Proofs.YtkgphhemcglgnaaGreatDoor
open Go HY
set_option maxRecDepth 1000000
abbrev Nq(s:(Qb×Qb×gVal))(u:gVal)(o:Bool):List Alt:=jb o (fun b=>[.ptr 0 0 0,.ptr 1 0 0,.ptr 2 0 0,.ptr 3 0 0,.bool b]) [.cells 0 (Qm (s.1)).cells,.cells 0 (Qm (s.2.1)).cells,.cells 0 (Qd (s.2.2)).cells,.cells 0 (Qd u).cells]
def Ga(x0:Qb)(x1:Qb)(x2:gVal):Option (gVal×Int):=
 some (gVal.mk (0:Int) (0:Int))>>=fun v0=>
 (Zo x0>>=fun v2=>
 if v2 !=0 then
 some true
 else
 Zo x1>>=fun v3=>
 if v3 !=0 then
 some true
 else
 some false)>>=fun v1=>if v1 then
 some ((gVal.mk (0:Int) (0:Int)))>>=fun v5=>
 some (v5,(10:Int))
 else
 Y6 x0 x2>>=fun v7=>if v7 then
 JU x0 x2>>=fun v8=>
 if x1.fx==3 then
 DV v8>>=fun v9=>
 some ((gVal.mk v9 (1:Int)))>>=fun a5=>
 some (a5,(0:Int))
 else
 if x1.fx==2 then
 JI x1 v8>>=fun a3=>
 some (a3.fst,a3.snd)
 else
 some (v8,(0:Int))
 else
 some ((gVal.mk (0:Int) (0:Int)))>>=fun a6=>
 some (a6,(1:Int))
theorem NU(x0 x1 x2 r)(h:Ga x0 x1 x2=some r):PU 240 [Qm x0,Qm x1,Qd x2] (Qs r):=
 Pu4 (hs:=[(11,.c eI),(12,.split),(15,.c eI),(16,.split),(18,.n Qd 18 none),(22,.cb),(24,.n Qd 24 none),(27,.c Qd),(31,.split),(33,.c eI),(34,.n Qd 34 none),(36,.split),(39,.c Qs),(5000001,.l [] [] [] [3,4,5,6,9] [kk 3,kk 4,kk 5,kk 6] (Nq (x0,x1,x2)))]) (Ga.eq_1 x0 x1 x2) h (q:=qB (Nq (x0,x1,x2)))
def Gb(x0:Qb)(x1:gVal):Option (gVal×Int):=
 if x0.fx==2 then
 Wp x0 x1>>=fun v0=>
 some (v0.fst,v0.snd)
 else
 some ((gVal.mk (wr ((0:Int) - x1.fN)) x1.fD))>>=fun v1=>
 some (v1,(0:Int))
theorem P6(x0 x1 r)(h:Gb x0 x1=some r):PU 297 [Qm x0,Qd x1] (Qs r):=
 Pu4 (hs:=[(8,.split),(11,.c Qs),(19,.n Qd 19 none)]) (Gb.eq_1 x0 x1) h
@[reducible,instance] def Qbz x0 x1:=Lw.mk (P6 x0 x1)
abbrev Gp(s:(Int×Qb×gVal×gVal))(u:(gVal×Bool))(o:Bool):List Alt:=jb o (fun b=>[ii (s.1),.ptr 0 0 0,.ptr 1 0 0,.ptr 2 0 0,.ptr 3 0 0,.bool (u.2),.bool b]) [.cells 0 (Qm (s.2.1)).cells,.cells 0 (Qd (s.2.2.1)).cells,.cells 0 (Qd (s.2.2.2)).cells,.cells 0 (Qd (u.1)).cells]
abbrev Gq(s:(Int×Qb×gVal×gVal))(u:(gVal×Bool))(o:Bool):List Alt:=jb o (fun b=>[ii (s.1),.ptr 0 0 0,.ptr 1 0 0,.ptr 2 0 0,.ptr 3 0 0,.bool (u.2),.bool b]) [.cells 0 (Qm (s.2.1)).cells,.cells 0 (Qd (s.2.2.1)).cells,.cells 0 (Qd (s.2.2.2)).cells,.cells 0 (Qd (u.1)).cells]
abbrev Gr(s:(Int×Qb×gVal×gVal))(u:(gVal×Bool))(o:Bool):List Alt:=jb o (fun b=>[ii (s.1),.ptr 0 0 0,.ptr 1 0 0,.ptr 2 0 0,.ptr 3 0 0,.bool (u.2),.bool b]) [.cells 0 (Qm (s.2.1)).cells,.cells 0 (Qd (s.2.2.1)).cells,.cells 0 (Qd (s.2.2.2)).cells,.cells 0 (Qd (u.1)).cells]
def VO(x0:Int)(x1:Qb)(x2:gVal)(x3:gVal):Option (gVal×Int):=
 if x1.fx==3 then
 Ux x0 x2.fN x3.fN>>=fun v0=>
 some (v0.fst,v0.snd)
 else
 some ((gVal.mk (0:Int) (0:Int)),(x1.fx==2))>>=fun v1=>
 (if x0==4 then
 if x1.fx==2 then
 some true
 else
 some false
 else
 some false)>>=fun v2=>if v2 then
 Wm x1 x2 x3>>=fun v4=>
 some (v4.fst,v4.snd)
 else
 some (v1.fst,v1.snd)>>=fun v6=>
 (if x0==5 then
 if v1.snd then
 some true
 else
 some false
 else
 some false)>>=fun v7=>if v7 then
 Wq x1 x2 x3>>=fun v9=>
 some (v9.fst,v9.snd)
 else
 some (v6.fst,v6.snd)>>=fun af=>
 (if x0==6 then
 if v6.snd then
 some true
 else
 some false
 else
 some false)>>=fun ag=>if ag then
 Wo x1 x2 x3>>=fun a7=>
 some (a7.fst,a7.snd)
 else
 if af.snd then
 Wn x1 x2 x3>>=fun a8=>
 some (a8.fst,a8.snd)
 else
 if x0==4 then
 NI x2 x3>>=fun a9=>
 some (a9.fst,a9.snd)
 else
 if x0==5 then
 NL x2 x3>>=fun aa=>
 some (aa.fst,aa.snd)
 else
 if x0==6 then
 NK x2 x3>>=fun ab=>
 some (ab.fst,ab.snd)
 else
 NJ x2 x3>>=fun ad=>
 some (ad.fst,ad.snd)
theorem Rp(x0 x1 x2 x3 r)(h:VO x0 x1 x2 x3=some r):PU 298 [eI x0,Qm x1,Qd x2,Qd x3] (Qs r):=
 Pu4 (hs:=[(17,.split),(23,.c Qs),(28,.split),(30,.split),(35,.c Qs),(40,.split),(42,.split),(47,.c Qs),(52,.split),(54,.split),(59,.c Qs),(63,.split),(67,.c Qs),(72,.split),(75,.c Qs),(80,.split),(83,.c Qs),(88,.split),(91,.c Qs),(96,.c Qs),(5000004,.l [] [] [] [0,5,6,7,8,10,26] [kk 5,kk 6,kk 7,kk 8] (Gp (x0,x1,x2,x3))),(5000006,.l [] [] [] [0,5,6,7,8,10,38] [kk 5,kk 6,kk 7,kk 8] (Gq (x0,x1,x2,x3))),(5000008,.l [] [] [] [0,5,6,7,8,10,50] [kk 5,kk 6,kk 7,kk 8] (Gr (x0,x1,x2,x3)))]) (VO.eq_1 x0 x1 x2 x3) h (q:=qIf (hB:=qB (Gp (x0,x1,x2,x3)) (hB:=fun v1=>qB (Gq (x0,x1,x2,x3)) (hB:=fun v6=>qB (Gr (x0,x1,x2,x3))))))
@[reducible,instance] def Q6z x0 x1 x2 x3:=Lw.mk (Rp x0 x1 x2 x3)
abbrev Wg(s:(Int×Qb×gVal×gVal))(u:gVal)(o:Bool):List Alt:=jb o (fun b=>[ii (s.1),.ptr 0 0 0,.ptr 1 0 0,.ptr 2 0 0,.ptr 3 0 0,.bool b]) [.cells 0 (Qm (s.2.1)).cells,.cells 0 (Qd (s.2.2.1)).cells,.cells 0 (Qd (s.2.2.2)).cells,.cells 0 (Qd u).cells]
abbrev Wh(s:(Int×Qb×gVal×gVal))(u:gVal)(o:Bool):List Alt:=jb o (fun b=>[ii (s.1),.ptr 0 0 0,.ptr 1 0 0,.ptr 2 0 0,.ptr 3 0 0,.bool b]) [.cells 0 (Qm (s.2.1)).cells,.cells 0 (Qd (s.2.2.1)).cells,.cells 0 (Qd (s.2.2.2)).cells,.cells 0 (Qd u).cells]
abbrev Wj(s:(Int×Qb×gVal×gVal))(u:gVal)(o:Bool):List Alt:=jb o (fun b=>[ii (s.1),.ptr 0 0 0,.ptr 1 0 0,.ptr 2 0 0,.ptr 3 0 0,.bool b]) [.cells 0 (Qm (s.2.1)).cells,.cells 0 (Qd (s.2.2.1)).cells,.cells 0 (Qd (s.2.2.2)).cells,.cells 0 (Qd u).cells]
abbrev Wi(s:(gVal×gVal))(u:gVal)(o:Bool):List Alt:=jb o (fun b=>[.ptr 0 0 0,.ptr 1 0 0,.ptr 2 0 0,.bool b]) [.cells 0 (Qd (s.1)).cells,.cells 0 (Qd (s.2)).cells,.cells 0 (Qd u).cells]
def J1(x0:Int)(x1:Qb)(x2:gVal)(x3:gVal):Option (gVal×Int):=
 some (gVal.mk (0:Int) (0:Int))>>=fun v0=>
 (if x0<4 then
 some true
 else
 if 10<x0 then
 some true
 else
 some false)>>=fun v1=>if v1 then
 some ((gVal.mk (0:Int) (0:Int)))>>=fun v3=>
 some (v3,(1:Int))
 else
 Zo x1>>=fun v5=>
 if v5 !=0 then
 some ((gVal.mk (0:Int) (0:Int)))>>=fun v6=>
 some (v6,(10:Int))
 else
 some v0>>=fun v7=>
 (Y6 x1 x2>>=fun v9=>if v9 then
 if x0 !=8 then
 Y6 x1 x3>>=fun aa=>if aa then
 some false
 else
 some true
 else
 some false
 else
 some true)>>=fun v8=>if v8 then
 some ((gVal.mk (0:Int) (0:Int)))>>=fun ab=>
 some (ab,(1:Int))
 else
 if x0==8 then
 Gb x1 x2>>=fun a5=>
 some (a5.fst,a5.snd)
 else
 some v7>>=fun ad=>
 (if x0==9 then
 some true
 else
 if x0==10 then
 some true
 else
 some false)>>=fun ae=>if ae then
 VV x1 x2 x3>>=fun a6=>
 some ad>>=fun ai=>
 (if decide (0<a6)==(x0==9) then
 if a6 !=0 then
 some true
 else
 some false
 else
 some false)>>=fun af=>if af then
 some (x3,(0:Int))
 else
 some (x2,(0:Int))
 else
 VO x0 x1 x2 x3>>=fun a7=>
 some (a7.fst,a7.snd)
theorem D8(x0 x1 x2 x3 r)(h:J1 x0 x1 x2 x3=some r):PU 241 [eI x0,Qm x1,Qd x2,Qd x3] (Qs r):=
 Pu4 (hs:=[(13,.split),(16,.split),(18,.n Qd 18 none),(21,.c eI),(22,.split),(23,.n Qd 23 none),(27,.cb),(31,.split),(35,.cb),(39,.n Qd 39 none),(42,.split),(45,.c Qs),(48,.split),(48,.split),(54,.c eI),(59,.split),(62,.split),(70,.c Qs),(5000001,.l [] [] [] [0,5,6,7,8,11] [kk 5,kk 6,kk 7,kk 8] (Wg (x0,x1,x2,x3))),(5000005,.l [] [] [] [0,5,6,7,8,24] [kk 5,kk 6,kk 7,kk 8] (Wh (x0,x1,x2,x3))),(6000012,.l [] [] [] [0,5,6,7,8,48] [kk 5,kk 6,kk 7,kk 8] (Wj (x0,x1,x2,x3))),(5000013,.l [] [] [] [6,7,8,63] [kk 6,kk 7,kk 8] (Wi (x2,x3)))]) (J1.eq_1 x0 x1 x2 x3) h (q:=qB (Wg (x0,x1,x2,x3)) (hB:=fun v0=>qC (hA:=fun v5=>qIf (hB:=qB (Wh (x0,x1,x2,x3)) (hB:=fun v7=>qIf (hB:=qB (Wj (x0,x1,x2,x3)) (hA:=fun a3=>qC (hA:=fun a4=>qB (Wi (x2,x3))))))))))
@[reducible,instance] def Qci x0 x1 x2 x3:=Lw.mk (D8 x0 x1 x2 x3)
end Go.Proofs.YtkgphhemcglgnaaGreatDoor
noncomputable section
namespace Go.Proofs.YtkgphhemcglgnaaGreatDoor
open Go HY
set_option maxRecDepth 1000000
def DQ(x1:List Qg)(x2:Q3):Option (Qu×Int):=
 if x2.fOp==1 then
 some ((Qu.mk x2.fp x2.fb),(0:Int))
 else
 if x2.fOp==2 then
 NN x2.fm x1>>=fun v0=>
 if v0.snd==0 then
 if 2147483647<v0.fst then
 some ((Qu.mk (gVal.mk v0.fst (1:Int)) (Qb.mk (3:Int) (0:Int) (0:Int) (0:Int) (0:Int))),(3:Int))
 else
 if v0.fst< (-2147483647:Int) then
 some ((Qu.mk (gVal.mk v0.fst (1:Int)) (Qb.mk (3:Int) (0:Int) (0:Int) (0:Int) (0:Int))),(3:Int))
 else
 some ((Qu.mk (gVal.mk v0.fst (1:Int)) (Qb.mk (3:Int) (0:Int) (0:Int) (0:Int) (0:Int))),v0.snd)
 else
 some ((Qu.mk (gVal.mk v0.fst (1:Int)) (Qb.mk (3:Int) (0:Int) (0:Int) (0:Int) (0:Int))),v0.snd)
 else
 (none:Option _)
theorem Q6f(x1 x2 r)(h:DQ x1 x2=some r):PU 204 [.undef,Z3 x1,Q8 x2] (GI r):=
 Pu4 (hs:=[(13,.split),(20,.split),(25,.c Vn),(29,.split),(32,.split),(35,.split)]) (DQ.eq_1 x1 x2) h (q:=qIf (hB:=qIf (hB:=⟨fun _=>kNone (A:=False)⟩)))
@[reducible,instance] def i_ev_leaf x1 x2:=Lw.mk (Q6f x1 x2)
def Xi(r:(Qu×Int)):AV:=GI r
def Xc(x1:List Qg)(r:(Qu×Int)):List Box:=[.cells 0 [.undef],.cells 0 [Z3 x1],.cells 0 [.ptr 3 0 0],.cells 0 [.fn 203 [.ptr 0 0 0,.ptr 1 0 0,.ptr 2 0 0],.fn 201 [.ptr 2 0 0]]]
def Zk(r:(Bool×Int)):AV:=Yj r
def Zh(x1:List Qg)(r:(Bool×Int)):List Box:=[.cells 0 [.undef],.cells 0 [Z3 x1],.cells 0 [.ptr 3 0 0],.cells 0 [.fn 203 [.ptr 0 0 0,.ptr 1 0 0,.ptr 2 0 0],.fn 201 [.ptr 2 0 0]]]
def LD(r:(Bool×Int)):AV:=Yj r
def Lz(x1:List Qg)(r:(Bool×Int)):List Box:=[.cells 0 [.undef],.cells 0 [Z3 x1],.cells 0 [.ptr 3 0 0],.cells 0 [.fn 203 [.ptr 0 0 0,.ptr 1 0 0,.ptr 2 0 0],.fn 201 [.ptr 2 0 0]]]
def Y3(r:(Qu×Int)):AV:=GI r
def XX(x1:List Qg)(r:(Qu×Int)):List Box:=[.cells 0 [.undef],.cells 0 [Z3 x1],.cells 0 [.ptr 3 0 0],.cells 0 [.fn 203 [.ptr 0 0 0,.ptr 1 0 0,.ptr 2 0 0],.fn 201 [.ptr 2 0 0]]]
def Xv(r:(Qu×Qu×Int)):AV:=Mt r
def Xu(x1:List Qg)(r:(Qu×Qu×Int)):List Box:=[.cells 0 [.undef],.cells 0 [Z3 x1],.cells 0 [.ptr 3 0 0],.cells 0 [.fn 203 [.ptr 0 0 0,.ptr 1 0 0,.ptr 2 0 0],.fn 201 [.ptr 2 0 0]]]
mutual
def XH(x0:Q3)(x1:List Qg):Option (Qu×Int):=
 if x0.fOp==1 then
 DQ x1 x0>>=fun v0=>
 some (v0.fst,v0.snd)
 else
 if x0.fOp==2 then
 DQ x1 x0>>=fun v1=>
 some (v1.fst,v1.snd)
 else
 if x0.fOp==3 then
 DQ x1 x0>>=fun v2=>
 some (v2.fst,v2.snd)
 else
 if x0.fOp==11 then
 Option.map Qc.f (ix x0.fe (0:Int))>>=fun v3=>
 KQ v3 x1>>=fun v4=>
 if v4.snd !=0 then
 some ((Qu.mk (gVal.mk (0:Int) (0:Int)) (Qb.mk (0:Int) (0:Int) (0:Int) (0:Int) (0:Int))))>>=fun v5=>
 some (v5,v4.snd)
 else
 if v4.fst then
 Option.map Qc.f (ix x0.fe (1:Int))>>=fun v6=>
 XH v6 x1>>=fun v7=>
 some (v7.fst,v7.snd)
 else
 Option.map Qc.f (ix x0.fe (2:Int))>>=fun v8=>
 XH v8 x1>>=fun v9=>
 some (v9.fst,v9.snd)
 else
 Gz x1 x0>>=fun a5=>
 some (a5.fst,a5.snd)
 partial_fixpoint
def Gz(x1:List Qg)(x0:Q3):Option (Qu×Int):=
 if x0.fOp==8 then
 Option.map Qc.f (ix x0.fe (0:Int))>>=fun v0=>
 XH v0 x1>>=fun v1=>
 if v1.snd !=0 then
 some (v1.fst,v1.snd)
 else
 if x0.fOp==12 then
 Ga v1.fst.fG x0.fb v1.fst.fO>>=fun v2=>
 some ((Qu.mk v2.fst x0.fb),v2.snd)
 else
 J1 8 v1.fst.fG v1.fst.fO v1.fst.fO>>=fun v3=>
 some ((Qu.mk v3.fst v1.fst.fG),v3.snd)
 else
 if x0.fOp==12 then
 Option.map Qc.f (ix x0.fe (0:Int))>>=fun v4=>
 XH v4 x1>>=fun v5=>
 if v5.snd !=0 then
 some (v5.fst,v5.snd)
 else
 if x0.fOp==12 then
 Ga v5.fst.fG x0.fb v5.fst.fO>>=fun v6=>
 some ((Qu.mk v6.fst x0.fb),v6.snd)
 else
 J1 8 v5.fst.fG v5.fst.fO v5.fst.fO>>=fun v7=>
 some ((Qu.mk v7.fst v5.fst.fG),v7.snd)
 else
 DR x1 x0>>=fun v8=>
 if v8.snd.snd !=0 then
 some ((Qu.mk (gVal.mk (0:Int) (0:Int)) (Qb.mk (0:Int) (0:Int) (0:Int) (0:Int) (0:Int))))>>=fun v9=>
 some (v9,v8.snd.snd)
 else
 J1 x0.fOp v8.fst.fG v8.fst.fO v8.snd.fst.fO>>=fun a7=>
 some ((Qu.mk a7.fst v8.fst.fG),a7.snd)
 partial_fixpoint
def DR(x1:List Qg)(x0:Q3):Option (Qu×Qu×Int):=
 Option.map Qc.f (ix x0.fe (0:Int))>>=fun v0=>
 XH v0 x1>>=fun v1=>
 if v1.snd !=0 then
 some (v1.fst,v1.fst,v1.snd)
 else
 Option.map Qc.f (ix x0.fe (1:Int))>>=fun v2=>
 XH v2 x1>>=fun v3=>
 if v3.snd==0 then
 if !(v1.fst.fG.fx==v3.fst.fG.fx&& (v1.fst.fG.fA==v3.fst.fG.fA&& (v1.fst.fG.fB==v3.fst.fG.fB&& (v1.fst.fG.fy==v3.fst.fG.fy&& (v1.fst.fG.fC==v3.fst.fG.fC&&true))))) then
 some (v1.fst,v3.fst,(10:Int))
 else
 some (v1.fst,v3.fst,v3.snd)
 else
 some (v1.fst,v3.fst,v3.snd)
 partial_fixpoint
def KQ(x0:Q3)(x1:List Qg):Option (Bool×Int):=
 Cj x1 x0>>=fun v0=>
 some (v0.fst,v0.snd)
 partial_fixpoint
def Cj(x1:List Qg)(x0:Q3):Option (Bool×Int):=
 if x0.fOp<16 then
 DR x1 x0>>=fun v0=>
 if v0.snd.snd !=0 then
 some (false,v0.snd.snd)
 else
 VV v0.fst.fG v0.fst.fO v0.snd.fst.fO>>=fun v1=>
 G3 x0.fOp v1>>=fun v2=>if v2 then
 some (true,(0:Int))
 else
 some (false,(0:Int))
 else
 Option.map Qc.f (ix x0.fe (0:Int))>>=fun v3=>
 KQ v3 x1>>=fun v4=>
 if v4.snd !=0 then
 if v4.snd==0 then
 some ((!v4.fst),v4.snd)
 else
 some (false,v4.snd)
 else
 if x0.fOp==18 then
 if v4.snd==0 then
 some ((!v4.fst),v4.snd)
 else
 some (false,v4.snd)
 else
 Option.map Qc.f (ix x0.fe (1:Int))>>=fun v5=>
 KQ v5 x1>>=fun v6=>
 if v6.snd !=0 then
 some (false,v6.snd)
 else
 if x0.fOp==16 then
 if v4.fst then
 some (v6.fst,(0:Int))
 else
 some (false,(0:Int))
 else
 if v4.fst then
 some (true,(0:Int))
 else
 some (v6.fst,(0:Int))
 partial_fixpoint
end
theorem Q1u(x1:List Qg):(∀(x0:Q3) (r:(Qu×Int)),XH x0 x1=some r→PH 203 [Q8 x0,.ptr 0 0 0,.ptr 1 0 0,.ptr 2 0 0] [.cells 0 [.undef],.cells 0 [Z3 x1],.cells 0 [.ptr 3 0 0],.cells 0 [.fn 203 [.ptr 0 0 0,.ptr 1 0 0,.ptr 2 0 0],.fn 201 [.ptr 2 0 0]]] (Xi r) (Xc x1 r))∧(∀(x0:Q3) (r:(Qu×Int)),Gz x1 x0=some r→PH 205 [.ptr 3 0 0,Q8 x0] [.cells 0 [.undef],.cells 0 [Z3 x1],.cells 0 [.ptr 3 0 0],.cells 0 [.fn 203 [.ptr 0 0 0,.ptr 1 0 0,.ptr 2 0 0],.fn 201 [.ptr 2 0 0]]] (Y3 r) (XX x1 r))∧(∀(x0:Q3) (r:(Qu×Qu×Int)),DR x1 x0=some r→PH 235 [.ptr 3 0 0,Q8 x0] [.cells 0 [.undef],.cells 0 [Z3 x1],.cells 0 [.ptr 3 0 0],.cells 0 [.fn 203 [.ptr 0 0 0,.ptr 1 0 0,.ptr 2 0 0],.fn 201 [.ptr 2 0 0]]] (Xv r) (Xu x1 r))∧(∀(x0:Q3) (r:(Bool×Int)),KQ x0 x1=some r→PH 201 [Q8 x0,.ptr 2 0 0] [.cells 0 [.undef],.cells 0 [Z3 x1],.cells 0 [.ptr 3 0 0],.cells 0 [.fn 203 [.ptr 0 0 0,.ptr 1 0 0,.ptr 2 0 0],.fn 201 [.ptr 2 0 0]]] (Zk r) (Zh x1 r))∧(∀(x0:Q3) (r:(Bool×Int)),Cj x1 x0=some r→PH 202 [.ptr 3 0 0,Q8 x0] [.cells 0 [.undef],.cells 0 [Z3 x1],.cells 0 [.ptr 3 0 0],.cells 0 [.fn 203 [.ptr 0 0 0,.ptr 1 0 0,.ptr 2 0 0],.fn 201 [.ptr 2 0 0]]] (LD r) (Lz x1 r)):=
 XH.mutual_partial_correctness x1 _ _ _ _ _
 (fun XH Gz KQ Qcr Qcn Qco x0 r h=>
 PuH4 (hs:=[(7600007,.z [kk 8] none),(7600011,.z [kk 8] none),(7600012,.z [kk 8] none),(30,.e Q8),(46,.e Q8),(57,.e Q8),(12,.split),(13,.split),(14,.split),(18,.c GI),(22,.split),(32,.h [{slot:=1,path:=[0,0,0]},{slot:=1,path:=[0,0,1]},kk 1,{slot:=1,path:=[0]}] Zk (Zh x1)),(36,.split),(39,.split),(37,.n Gh 37 none),(48,.h [kk 1,kk 2,kk 3,{slot:=3,path:=[0]}] Xi (Xc x1)),(59,.h [kk 1,kk 2,kk 3,{slot:=3,path:=[0]}] Xi (Xc x1)),(64,.h [{slot:=0,path:=[0,0]},{slot:=0,path:=[0,1]},{slot:=0,path:=[0,2]},kk 0] Y3 (XX x1))]) (kb:=[kk 1,kk 2,kk 3,kk 4]) rfl h (q:=qIf (hB:=qIf (hB:=qIf (hB:=qIf (hA:=qIxR (hA:=fun v3=>qH (sh:=Zk) (bt:=Zh x1) (Qco v3) (hA:=fun v4=>qIf (hB:=qIf (hA:=qIxR (hA:=fun v6=>qH (sh:=Xi) (bt:=Xc x1) (Qcr v6))) (hB:=qIxR (hA:=fun v8=>qH (sh:=Xi) (bt:=Xc x1) (Qcr v8))))))) (hB:=qH (sh:=Y3) (bt:=XX x1) (Qcn x0)))))))
 (fun XH DR Qcr Qcq x0 r h=>
 PuH4 (hs:=[(7600002,.z [kk 8,kk 12] none),(30,.e Q8),(17,.split),(21,.split),(32,.h [kk 1,kk 2,kk 3,{slot:=3,path:=[0]}] Xi (Xc x1)),(36,.split),(41,.split),(49,.c Qs),(64,.c Qs),(75,.h [{slot:=0,path:=[0,0]},{slot:=0,path:=[0,1]},{slot:=0,path:=[0,2]},kk 0] Xv (Xu x1)),(80,.split),(92,.c Qs),(81,.n Gh 81 none)]) (kb:=[kk 1,kk 2,kk 3,kk 4]) rfl h (q:=qIf (hA:=qIxR (hA:=fun v0=>⟨fun _=>KM (kH (sh:=Xi) (bt:=Xc x1) (Qcr v0) fun v1=>(kIf (c:=v1.snd !=0) (kEH (enc:=Y3) (bt:=XX x1) (v1.fst,v1.snd) ⟨.refl _,.refl _⟩)
 (kIf (c:=x0.fOp==12) (kC (sh:=Qs) (NU v1.fst.fG x0.fb v1.fst.fO) fun v2=>(kEH (enc:=Y3) (bt:=XX x1) ((Qu.mk v2.fst x0.fb),v2.snd) ⟨.refl _,.refl _⟩))
 (kC (sh:=Qs) (D8 8 v1.fst.fG v1.fst.fO v1.fst.fO) fun v3=>(kEH (enc:=Y3) (bt:=XX x1) ((Qu.mk v3.fst v1.fst.fG),v3.snd) ⟨.refl _,.refl _⟩)))))
 (kH (sh:=Xi) (bt:=Xc x1) (Qcr v0) fun v1=>(kIf (c:=v1.snd !=0) (kEH (enc:=Y3) (bt:=XX x1) (v1.fst,v1.snd) ⟨.refl _,.refl _⟩)
 (kIf (c:=x0.fOp==12) (kC (sh:=Qs) (NU v1.fst.fG x0.fb v1.fst.fO) fun v2=>(kEH (enc:=Y3) (bt:=XX x1) ((Qu.mk v2.fst x0.fb),v2.snd) ⟨.refl _,.refl _⟩))
 (kC (sh:=Qs) (D8 8 v1.fst.fG v1.fst.fO v1.fst.fO) fun v3=>(kEH (enc:=Y3) (bt:=XX x1) ((Qu.mk v3.fst v1.fst.fG),v3.snd) ⟨.refl _,.refl _⟩)))))⟩)) (hB:=qIf (hA:=qIxR (hA:=fun v4=>⟨fun _=>KM (kH (sh:=Xi) (bt:=Xc x1) (Qcr v4) fun v5=>(kIf (c:=v5.snd !=0) (kEH (enc:=Y3) (bt:=XX x1) (v5.fst,v5.snd) ⟨.refl _,.refl _⟩)
 (kIf (c:=x0.fOp==12) (kC (sh:=Qs) (NU v5.fst.fG x0.fb v5.fst.fO) fun v6=>(kEH (enc:=Y3) (bt:=XX x1) ((Qu.mk v6.fst x0.fb),v6.snd) ⟨.refl _,.refl _⟩))
 (kC (sh:=Qs) (D8 8 v5.fst.fG v5.fst.fO v5.fst.fO) fun v7=>(kEH (enc:=Y3) (bt:=XX x1) ((Qu.mk v7.fst v5.fst.fG),v7.snd) ⟨.refl _,.refl _⟩)))))
 (kH (sh:=Xi) (bt:=Xc x1) (Qcr v4) fun v5=>(kIf (c:=v5.snd !=0) (kEH (enc:=Y3) (bt:=XX x1) (v5.fst,v5.snd) ⟨.refl _,.refl _⟩)
 (kIf (c:=x0.fOp==12) (kC (sh:=Qs) (NU v5.fst.fG x0.fb v5.fst.fO) fun v6=>(kEH (enc:=Y3) (bt:=XX x1) ((Qu.mk v6.fst x0.fb),v6.snd) ⟨.refl _,.refl _⟩))
 (kC (sh:=Qs) (D8 8 v5.fst.fG v5.fst.fO v5.fst.fO) fun v7=>(kEH (enc:=Y3) (bt:=XX x1) ((Qu.mk v7.fst v5.fst.fG),v7.snd) ⟨.refl _,.refl _⟩)))))⟩)) (hB:=qH (sh:=Xv) (bt:=Xu x1) (Qcq x0)))))
 (fun XH Qcr x0 r h=>
 PuH4 (hs:=[(7600001,.z [kk 8,kk 12] none),(7600004,.z [kk 8,kk 12] none),(17,.e Q8),(34,.e Q8),(19,.h [kk 1,kk 2,kk 3,{slot:=3,path:=[0]}] Xi (Xc x1)),(23,.split),(36,.h [kk 1,kk 2,kk 3,{slot:=3,path:=[0]}] Xi (Xc x1)),(40,.split),(46,.split)]) (kb:=[kk 1,kk 2,kk 3,kk 4]) rfl h (q:=qIxR (hA:=fun v0=>⟨fun _=>KM (kH (sh:=Xi) (bt:=Xc x1) (Qcr v0) fun v1=>(kIf (c:=v1.snd !=0) (kEH (enc:=Xv) (bt:=Xu x1) (v1.fst,v1.fst,v1.snd) ⟨.refl _,.refl _⟩)
 (kIxR (l:=x0.fe) (k:=(1:Int)) Ia fun v2=>(KM (kH (sh:=Xi) (bt:=Xc x1) (Qcr v2) fun v3=>(kIf (c:=v3.snd==0) (kIf (c:= !(v1.fst.fG.fx==v3.fst.fG.fx&& (v1.fst.fG.fA==v3.fst.fG.fA&& (v1.fst.fG.fB==v3.fst.fG.fB&& (v1.fst.fG.fy==v3.fst.fG.fy&& (v1.fst.fG.fC==v3.fst.fG.fC&&true)))))) (kEH (enc:=Xv) (bt:=Xu x1) (v1.fst,v3.fst,(10:Int)) ⟨.refl _,.refl _⟩)
 (kEH (enc:=Xv) (bt:=Xu x1) (v1.fst,v3.fst,v3.snd) ⟨.refl _,.refl _⟩))
 (kEH (enc:=Xv) (bt:=Xu x1) (v1.fst,v3.fst,v3.snd) ⟨.refl _,.refl _⟩)))
 (kH (sh:=Xi) (bt:=Xc x1) (Qcr v2) fun v3=>(kIf (c:=v3.snd==0) (kIf (c:= !(v1.fst.fG.fx==v3.fst.fG.fx&& (v1.fst.fG.fA==v3.fst.fG.fA&& (v1.fst.fG.fB==v3.fst.fG.fB&& (v1.fst.fG.fy==v3.fst.fG.fy&& (v1.fst.fG.fC==v3.fst.fG.fC&&true)))))) (kEH (enc:=Xv) (bt:=Xu x1) (v1.fst,v3.fst,(10:Int)) ⟨.refl _,.refl _⟩)
 (kEH (enc:=Xv) (bt:=Xu x1) (v1.fst,v3.fst,v3.snd) ⟨.refl _,.refl _⟩))
 (kEH (enc:=Xv) (bt:=Xu x1) (v1.fst,v3.fst,v3.snd) ⟨.refl _,.refl _⟩)))))))
 (kH (sh:=Xi) (bt:=Xc x1) (Qcr v0) fun v1=>(kIf (c:=v1.snd !=0) (kEH (enc:=Xv) (bt:=Xu x1) (v1.fst,v1.fst,v1.snd) ⟨.refl _,.refl _⟩)
 (kIxR (l:=x0.fe) (k:=(1:Int)) Ia fun v2=>(KM (kH (sh:=Xi) (bt:=Xc x1) (Qcr v2) fun v3=>(kIf (c:=v3.snd==0) (kIf (c:= !(v1.fst.fG.fx==v3.fst.fG.fx&& (v1.fst.fG.fA==v3.fst.fG.fA&& (v1.fst.fG.fB==v3.fst.fG.fB&& (v1.fst.fG.fy==v3.fst.fG.fy&& (v1.fst.fG.fC==v3.fst.fG.fC&&true)))))) (kEH (enc:=Xv) (bt:=Xu x1) (v1.fst,v3.fst,(10:Int)) ⟨.refl _,.refl _⟩)
 (kEH (enc:=Xv) (bt:=Xu x1) (v1.fst,v3.fst,v3.snd) ⟨.refl _,.refl _⟩))
 (kEH (enc:=Xv) (bt:=Xu x1) (v1.fst,v3.fst,v3.snd) ⟨.refl _,.refl _⟩)))
 (kH (sh:=Xi) (bt:=Xc x1) (Qcr v2) fun v3=>(kIf (c:=v3.snd==0) (kIf (c:= !(v1.fst.fG.fx==v3.fst.fG.fx&& (v1.fst.fG.fA==v3.fst.fG.fA&& (v1.fst.fG.fB==v3.fst.fG.fB&& (v1.fst.fG.fy==v3.fst.fG.fy&& (v1.fst.fG.fC==v3.fst.fG.fC&&true)))))) (kEH (enc:=Xv) (bt:=Xu x1) (v1.fst,v3.fst,(10:Int)) ⟨.refl _,.refl _⟩)
 (kEH (enc:=Xv) (bt:=Xu x1) (v1.fst,v3.fst,v3.snd) ⟨.refl _,.refl _⟩))
 (kEH (enc:=Xv) (bt:=Xu x1) (v1.fst,v3.fst,v3.snd) ⟨.refl _,.refl _⟩)))))))⟩)))
 (fun Cj Qcp x0 r h=>
 PuH4 (hs:=[(7,.h [{slot:=0,path:=[0,0]},{slot:=0,path:=[0,1]},{slot:=0,path:=[0,2]},kk 0] LD (Lz x1))]) (kb:=[kk 1,kk 2,kk 3,kk 4]) rfl h (q:=qH (sh:=LD) (bt:=Lz x1) (Qcp x0)))
 (fun DR KQ Qcq Qco x0 r h=>
 PuH4 (hs:=[(7600006,.z [kk 8] none),(7600009,.z [kk 8] none),(42,.e Q8),(68,.e Q8),(14,.split),(18,.h [{slot:=0,path:=[0,0]},{slot:=0,path:=[0,1]},{slot:=0,path:=[0,2]},kk 0] Xv (Xu x1)),(23,.split),(33,.c eI),(34,.cb),(44,.h [{slot:=1,path:=[0,0,0]},{slot:=1,path:=[0,0,1]},kk 1,{slot:=1,path:=[0]}] Zk (Zh x1)),(48,.split),(52,.split),(55,.split),(70,.h [{slot:=1,path:=[0,0,0]},{slot:=1,path:=[0,0,1]},kk 1,{slot:=1,path:=[0]}] Zk (Zh x1)),(74,.split),(78,.split),(80,.split),(84,.split)]) (kb:=[kk 1,kk 2,kk 3,kk 4]) rfl h (q:=qD (hA:=qH (sh:=Xv) (bt:=Xu x1) (Qcq x0)) (hB:=qIxR (hA:=fun v3=>qH (sh:=Zk) (bt:=Zh x1) (Qco v3) (hA:=fun v4=>qIf (hB:=qIf (hB:=qIxR (hA:=fun v5=>qH (sh:=Zk) (bt:=Zh x1) (Qco v5)))))))))
theorem XN(x0 x1 r)(h:KQ x0 x1=some r):PH 201 [Q8 x0,.ptr 2 0 0] [.cells 0 [.undef],.cells 0 [Z3 x1],.cells 0 [.ptr 3 0 0],.cells 0 [.fn 203 [.ptr 0 0 0,.ptr 1 0 0,.ptr 2 0 0],.fn 201 [.ptr 2 0 0]]] (Zk r) (Zh x1 r):=(Q1u x1).2.2.2.1 x0 r h
end Go.Proofs.YtkgphhemcglgnaaGreatDoor
noncomputable section
namespace Go.Proofs.YtkgphhemcglgnaaGreatDoor
open Go HY
set_option maxRecDepth 1000000
def KD(_r:Unit):AV:=.fn 206 [.undef,.undef]
def Kz(_r:Unit):List Box:=[]
def Ka(_r:Unit):AV:=.ptr 3 0 0
def K5(x1:List Qg)(_r:Unit):List Box:=[.cells 0 [.undef],.cells 0 [Z3 x1],.cells 0 [.ptr 3 0 0],.cells 0 [.fn 203 [.ptr 0 0 0,.ptr 1 0 0,.ptr 2 0 0],.fn 201 [.ptr 2 0 0]]]
def Ha(a3:List HF):Option Unit:=some ()
def R9(a3:List Qg):Option Unit:=some ()
theorem VC(x0:List HF)(r:Unit)(_h:Ha x0=some r):PH 173 [BD x0] [] (KD r) (Kz r):=PuH1 (φ:=LeVs [.fn 206 [.undef,.undef]] [.fn 206 [.undef,.undef]]∧LeBs [] []) (hs:=[]) (kb:=[]) (by kernel_rfl) ⟨.refl _,.refl _⟩
theorem KX(x1:List Qg)(r:Unit)(_h:R9 x1=some r):PH 172 [.fn 206 [.undef,.undef],Z3 x1] [] (Ka r) (K5 x1 r):=PuH1 (φ:=LeVs [.ptr 3 0 0] [.ptr 3 0 0]∧LeBs [.cells 0 [.fn 206 [.undef,.undef]],.cells 0 [Z3 x1],.cells 0 [.ptr 3 0 0],.cells 0 [.fn 203 [.ptr 0 0 0,.ptr 1 0 0,.ptr 2 0 0],.fn 201 [.ptr 2 0 0]]] [.cells 0 [.undef],.cells 0 [Z3 x1],.cells 0 [.ptr 3 0 0],.cells 0 [.fn 203 [.ptr 0 0 0,.ptr 1 0 0,.ptr 2 0 0],.fn 201 [.ptr 2 0 0]]]) (hs:=[]) (kb:=[{slot:=0,path:=[0,0]},{slot:=0,path:=[0,1]},{slot:=0,path:=[0,2]},kk 0]) (by kernel_rfl) (And.intro (.refl _) (.cons (.cells 0 (.cons (.undef _) .nil)) (.refl _)))
def GA(x0:List HF)(x1:List Qg)(x2:Q3):Option (Bool×Int):=
 Ul x2>>=fun v0=>
 if v0 !=0 then
 some (false,v0)
 else
 XI x2>>=fun v1=>
 if !v1 then
 some (false,(10:Int))
 else
 Ha x0>>=fun v2=>
 R9 x1>>=fun v3=>
 KQ x2 x1>>=fun v4=>
 some (v4.fst,v4.snd)
theorem SB(x0 x1 x2 r)(h:GA x0 x1 x2=some r):PU 130 [BD x0,Z3 x1,Q8 x2] (Yj r):=
 Pu2 (hs:=[(10,.c eI),(12,.split),(15,.c eB),(16,.split),(7600006,.ac),(18,.h [] KD Kz),(20,.h [] Ka (K5 x1)),(25,.h [{slot:=1,path:=[0,0,0]},{slot:=1,path:=[0,0,1]},kk 1,{slot:=1,path:=[0]}] Zk (Zh x1))]) ((kC (sh:=eI) (IG x2) fun v0=>(kIf (c:=v0 !=0) (kEr (enc:=Yj) (false,v0))
 (kC (sh:=eB) (MX x2) fun v1=>(kIf (c:= !v1) (kEr (enc:=Yj) (false,(10:Int)))
 (KM (KM (kH (sh:=KD) (bt:=Kz) (VC x0) fun v2=>(KM (KM (kH (sh:=Ka) (bt:=K5 x1) (KX x1) fun v3=>(KM (KM (kBoS (kH (sh:=Zk) (bt:=Zh x1) (XN x2 x1) fun v4=>(kBoS (kEr (enc:=Yj) (v4.fst,v4.snd)))))
 (kH (sh:=Zk) (bt:=Zh x1) (XN x2 x1) fun v4=>(kBoS (kEr (enc:=Yj) (v4.fst,v4.snd)))))
 (kH (sh:=Zk) (bt:=Zh x1) (XN x2 x1) fun v4=>(kBoS (kEr (enc:=Yj) (v4.fst,v4.snd))))))
 (kH (sh:=Ka) (bt:=K5 x1) (KX x1) fun v3=>(kH (sh:=Zk) (bt:=Zh x1) (XN x2 x1) fun v4=>(kBoS (kEr (enc:=Yj) (v4.fst,v4.snd))))))
 (kH (sh:=Ka) (bt:=K5 x1) (KX x1) fun v3=>(kH (sh:=Zk) (bt:=Zh x1) (XN x2 x1) fun v4=>(kBoS (kEr (enc:=Yj) (v4.fst,v4.snd)))))))
 (KM (KM (kH (sh:=KD) (bt:=Kz) (VC x0) fun v2=>(KM (kH (sh:=Ka) (bt:=K5 x1) (KX x1) fun v3=>(KM (KM (kBoS (kH (sh:=Zk) (bt:=Zh x1) (XN x2 x1) fun v4=>(kBoS (kEr (enc:=Yj) (v4.fst,v4.snd)))))
 (kH (sh:=Zk) (bt:=Zh x1) (XN x2 x1) fun v4=>(kBoS (kEr (enc:=Yj) (v4.fst,v4.snd)))))
 (kH (sh:=Zk) (bt:=Zh x1) (XN x2 x1) fun v4=>(kBoS (kEr (enc:=Yj) (v4.fst,v4.snd))))))
 (kH (sh:=Ka) (bt:=K5 x1) (KX x1) fun v3=>(kH (sh:=Zk) (bt:=Zh x1) (XN x2 x1) fun v4=>(kBoS (kEr (enc:=Yj) (v4.fst,v4.snd)))))))
 (kH (sh:=KD) (bt:=Kz) (VC x0) fun v2=>(kH (sh:=Ka) (bt:=K5 x1) (KX x1) fun v3=>(kH (sh:=Zk) (bt:=Zh x1) (XN x2 x1) fun v4=>(kBoS (kEr (enc:=Yj) (v4.fst,v4.snd)))))))
 (kBoS (kH (sh:=KD) (bt:=Kz) (VC x0) fun v2=>(kH (sh:=Ka) (bt:=K5 x1) (KX x1) fun v3=>(kH (sh:=Zk) (bt:=Zh x1) (XN x2 x1) fun v4=>(kBoS (kEr (enc:=Yj) (v4.fst,v4.snd)))))))))
 (KM (KM (KM (kH (sh:=KD) (bt:=Kz) (VC x0) fun v2=>(KM (kH (sh:=Ka) (bt:=K5 x1) (KX x1) fun v3=>(KM (KM (kBoS (kH (sh:=Zk) (bt:=Zh x1) (XN x2 x1) fun v4=>(kBoS (kEr (enc:=Yj) (v4.fst,v4.snd)))))
 (kH (sh:=Zk) (bt:=Zh x1) (XN x2 x1) fun v4=>(kBoS (kEr (enc:=Yj) (v4.fst,v4.snd)))))
 (kH (sh:=Zk) (bt:=Zh x1) (XN x2 x1) fun v4=>(kBoS (kEr (enc:=Yj) (v4.fst,v4.snd))))))
 (kH (sh:=Ka) (bt:=K5 x1) (KX x1) fun v3=>(kH (sh:=Zk) (bt:=Zh x1) (XN x2 x1) fun v4=>(kBoS (kEr (enc:=Yj) (v4.fst,v4.snd)))))))
 (kH (sh:=KD) (bt:=Kz) (VC x0) fun v2=>(kH (sh:=Ka) (bt:=K5 x1) (KX x1) fun v3=>(kH (sh:=Zk) (bt:=Zh x1) (XN x2 x1) fun v4=>(kBoS (kEr (enc:=Yj) (v4.fst,v4.snd)))))))
 (kH (sh:=KD) (bt:=Kz) (VC x0) fun v2=>(kH (sh:=Ka) (bt:=K5 x1) (KX x1) fun v3=>(kH (sh:=Zk) (bt:=Zh x1) (XN x2 x1) fun v4=>(kBoS (kEr (enc:=Yj) (v4.fst,v4.snd)))))))
 (KM (kBoS (kH (sh:=KD) (bt:=Kz) (VC x0) fun v2=>(kH (sh:=Ka) (bt:=K5 x1) (KX x1) fun v3=>(kH (sh:=Zk) (bt:=Zh x1) (XN x2 x1) fun v4=>(kBoS (kEr (enc:=Yj) (v4.fst,v4.snd)))))))
 (kH (sh:=KD) (bt:=Kz) (VC x0) fun v2=>(kH (sh:=Ka) (bt:=K5 x1) (KX x1) fun v3=>(kH (sh:=Zk) (bt:=Zh x1) (XN x2 x1) fun v4=>(kBoS (kEr (enc:=Yj) (v4.fst,v4.snd))))))))))))) h)
theorem w64(n:Int):0≤w6 n:=by unfold w6;rw[IntKind.wrap_u64];omega
theorem f64(n:Int):fits (wr n):=wrapR n
theorem Ir(x:Int)(h:fits x):XO x=some (x.natAbs:Int):=by
 unfold XO;unfold fits at h;split;·unfold w6;rw[IntKind.wrap_u64,IntKind.wrap_u64];congr 1;omega
 ·unfold w6;rw[IntKind.wrap_u64];congr 1;omega
theorem Sa(x:Int)(h:fits x):Va x=some (x.natAbs:Int):=Ir x h
theorem Q5y(a b:Nat):GC a b=some (Nat.gcd a b:Int):=by
 unfold GC;rw[bS,gcd_L1 KI (fun a b=>by rw[KI]),bS]
theorem t_mag(x:Int):∃k:Nat,XO x=some (k:Int):=by
 unfold XO;split;·exact⟨_,by rw[← Int.toNat_of_nonneg (w64 _)]⟩
 ·exact⟨_,by rw[← Int.toNat_of_nonneg (w64 _)]⟩
theorem M7(a b:Int)(hb:fits b):wp (Jk a b) (fun _=>True):=by
 unfold Jk;obtain⟨k,hk⟩:=t_mag a;by_cases h0:b=0;·subst h0;repeat' (first | exact trivial | (simp only[zz,↓reduceIte]))
 ·have hg:((Nat.gcd k b.natAbs:Nat):Int)≠0:=by
   have:=Nat.gcd_pos_of_pos_right k (show 0<b.natAbs by omega)
   omega
  rw[if_neg (by simpa using h0),hk,bS,Ir b hb,bS,bS,bS,Q5y,bS,if_pos hg,if_pos hg]
  repeat' (first | exact trivial | (simp only[zz,↓reduceIte]))
theorem Jv(v:gVal):wp (Zz v) (fun r=>r=true→1≤v.fD∧v.fD≤2147483647∧ -2147483647≤v.fN∧v.fN≤2147483647):=by
 rw[Hk];refine QG.2 fun h=> ?_
 have:=of_decide_eq_true h;omega
theorem Q10(a b:Int):wp (JK a b) (fun _=>True):=by
 unfold JK;repeat' (first | exact trivial | (simp only[zz,↓reduceIte]))
theorem Pq(a b:gVal):wp (G5 a b) (fun _=>True):=by
 unfold G5;repeat' (first | exact trivial | (intro _) | (refine And.intro ?_ ?_) | (refine Qj (Jv _) fun _ _=> ?_) | (refine Qj (Q10 _ _) fun _ _=> ?_) | (simp only[zz,↓reduceIte]))
theorem Q5u(a b:gVal):wp (NI a b) (fun _=>True):=by
 unfold NI;repeat' (first | exact trivial | (intro _) | (refine Qj (Jv _) fun _ _=> ?_) | (refine Qj (M7 _ _ (f64 _)) fun _ _=> ?_) | (simp only[zz,↓reduceIte]))
theorem Q5x(a b:gVal):wp (NL a b) (fun _=>True):=by
 unfold NL;repeat' (first | exact trivial | (intro _) | (refine Qj (Jv _) fun _ _=> ?_) | (refine Qj (M7 _ _ (f64 _)) fun _ _=> ?_) | (simp only[zz,↓reduceIte]))
theorem Q5w(a b:gVal):wp (NK a b) (fun _=>True):=by
 unfold NK;repeat' (first | exact trivial | (intro _) | (refine Qj (Jv _) fun _ _=> ?_) | (refine Qj (M7 _ _ (f64 _)) fun _ _=> ?_) | (simp only[zz,↓reduceIte]))
theorem Q5v(a b:gVal):wp (NJ a b) (fun _=>True):=by
 unfold NJ;repeat' (first | exact trivial | (intro _) | (refine Qj (Jv _) fun _ _=> ?_) | (refine Qj (M7 _ _ (f64 _)) fun _ _=> ?_) | (simp only[zz,↓reduceIte]))
theorem Q0z(a:gVal):wp (DV a) (fun _=>True):=by
 unfold DV;refine Zv.2 (Qj (Jv a) fun r hr=> ?_)
 cases r with
 |false=>repeat' (first | exact trivial | (simp only[zz,↓reduceIte]) | omega)
 |true=>
  have h:=hr rfl;have hd:a.fD≠0:=by omega
  repeat' (first | exact trivial | (simp only[zz,↓reduceIte]) | omega)
theorem RY(m:Int):wp (G9 m) (fun r=>r=true→1≤m∧m≤4):=by
 unfold G9;repeat' (first | exact trivial | assumption | (intro _) | (refine And.intro ?_ ?_) | (simp only[zz,↓reduceIte]))
theorem Q7j(a b:Int)(s:Bool)(m:Int)(h0:b≠0)(hm:1≤m∧m≤4):wp (Uw a b s m) (fun _=>True):=by
 unfold Uw;have h2:(2:Int)≠0:=by decide
 rcases(show m=1∨m=2∨m=3∨m=4 by omega) with h | h | h | h<;>subst h
 ·rw[if_pos rfl];unfold US;rw[if_pos h0,if_pos h0];repeat' (first | exact trivial | (simp only[zz,↓reduceIte]) | omega)
 ·rw[if_neg (by decide),if_pos rfl];unfold UT;rw[if_pos h0,if_pos h0];repeat' (first | exact trivial | (simp only[zz,↓reduceIte]) | omega)
 ·rw[if_neg (by decide),if_neg (by decide),if_pos rfl];unfold UU;rw[if_pos h0,if_pos h0];repeat' (first | exact trivial | (simp only[zz,↓reduceIte]) | omega)
 ·rw[if_neg (by decide),if_neg (by decide),if_neg (by decide),if_pos rfl];unfold UV;rw[if_pos h0,if_pos h0];repeat' (first | exact trivial | (simp only[zz,↓reduceIte]) | omega)
theorem ME(a b m:Int)(hb:fits b):wp (Vu a b m) (fun _=>True):=by
 unfold Vu;obtain⟨k,hk⟩:=t_mag a;have hk:Va a=some (k:Int):=hk;refine Zv.2 (Qj (RY m) fun r hr=> ?_)
 cases r with
 |false=>repeat' (first | exact trivial | (simp only[zz,↓reduceIte]))
 |true=>
  by_cases h0:b=0;·subst h0;repeat' (first | exact trivial | (simp only[zz,↓reduceIte]))
  ·rw[if_pos rfl,if_neg (by simpa using h0),hk,bS,Sa b hb,bS]
   refine Zv.2 (Qj (Q7j _ _ _ _ (by omega) (hr rfl)) fun _ _=> ?_)
   repeat' (first | exact trivial | (simp only[zz,↓reduceIte]))
theorem Q5t(v:gVal)(b m:Int):wp (JR v b m) (fun _=>True):=by
 unfold JR;have:=w64 b;rw[bS,Hk];by_cases h:(-2147483647≤v.fN∧v.fN≤2147483647∧1≤v.fD∧v.fD≤2147483647∧Nat.gcd v.fN.natAbs v.fD.natAbs=1)
 ·rw[decide_eq_true h,bS];have hd:fits v.fD:=by unfold fits;omega
  repeat' (first | exact trivial | (intro _) | (refine And.intro ?_ ?_) | (refine Qj (RY _) fun _ _=> ?_) | (refine Qj (ME _ _ _ hd) fun _ _=> ?_) | (simp only[zz,↓reduceIte]) | omega)
 ·rw[decide_eq_false h,bS]
  repeat' (first | exact trivial | (intro _) | (refine And.intro ?_ ?_) | (simp only[zz,↓reduceIte]) | omega)
theorem Lv(b:Int):wp (Vd b) (fun _=>True):=by
 unfold Vd;repeat' (first | exact trivial | (simp only[zz,↓reduceIte]))
theorem f0:fits 0:=by decide
theorem Q0y(b:Int):wp (Vw b) (fun r=>fits r):=by
 unfold Vw;have:=w64 (wr (b - (1:Int)))
 repeat' (first | exact trivial | (intro _) | (refine And.intro ?_ ?_) | (exact(f64 _).1) | (exact(f64 _).2) | (exact f0.1) | (exact f0.2) | (refine Qj (Lv _) fun _ _=> ?_) | (simp only[zz,↓reduceIte]) | omega)
theorem Q0x(b:Int):wp (Vv b) (fun r=>fits r):=by
 unfold Vv;have:=w64 (wr (b - (1:Int)))
 repeat' (first | exact trivial | (intro _) | (refine And.intro ?_ ?_) | (exact(f64 _).1) | (exact(f64 _).2) | (exact f0.1) | (exact f0.2) | (refine Qj (Lv _) fun _ _=> ?_) | (simp only[zz,↓reduceIte]) | omega)
theorem Qa1(a b c:Int):wp (G8 a b c) (fun _=>True):=by
 unfold G8;have:=w64 (wr (64 - b))
 repeat' (first | exact trivial | (intro _) | (refine And.intro ?_ ?_) | (refine Qj (Lv _) fun _ _=> ?_) | (refine Qj (Q0y _) fun _ _=> ?_) | (refine Qj (Q0x _) fun _ _=> ?_) | (simp only[zz,↓reduceIte]) | omega)
theorem JA(t:Qb)(a:Int):wp (YE t a) (fun _=>True):=by
 unfold YE;repeat' (first | exact trivial | (refine Qj (Qa1 _ _ _) fun _ _=> ?_) | (simp only[zz,↓reduceIte]))
theorem GO(t:Qb):wp (Zy t) (fun r=>r=0→0≤t.fB):=by
 unfold Zy
 repeat' (first | exact trivial | (simp only[zz,↓reduceIte]) | omega)
theorem ER(t:Qb)(v:gVal):wp (VZ t v) (fun r=>r=true→fits v.fN):=by
 unfold VZ;refine Zv.2 (Qj (GO t) fun r _=> ?_)
 split
 ·split
  ·refine Zv.2 (Qj (Q0y _) fun a ha=> ?_)
   split
   ·refine Zv.2 (Qj (Q0x _) fun b hb=> ?_)
    refine QG.2 fun h=> ?_
    have:=of_decide_eq_true h;unfold fits at*;omega
   ·exact QG.2 fun h=>by cases h
  ·exact QG.2 fun h=>by cases h
 ·exact QG.2 fun h=>by cases h
theorem Uf(t:Qb)(l:List gVal)(hl:l.length≤100):wp (Kd t l) (fun r=>r=0→0≤t.fB∧∀v∈l,fits v.fN):=by
 have L:wp (Ys t l l.length 0) (fun r=>(r= .inl ()∧∀v∈l,fits v.fN)∨r= .inr 1):=by
  refine Q3h (F:=fun(_:Unit) i=>Ys t l l.length i) (l:=l) (fun _ t=>(∀v∈t,fits v.fN)→∀v∈l,fits v.fN) ?_ ?_ () (fun h=>h)
  ·intro _ h;rw[Ys,if_neg (by omega)]
   exact QG.2 (.inl ⟨rfl,h (by simp)⟩)
  ·intro i x t' _ h0 h1 hx a3 _ hI ih;rw[Ys,if_pos h1,a3,bS];refine Zv.2 (Qj (ER t x) fun r hr=> ?_)
   cases r with
   |false=>rw[if_neg (by decide)];exact QG.2 (.inr rfl)
   |true=>
    rw[if_pos rfl,ZB (by omega)]
    exact ih () fun h=>hI fun v hv=>by
     rcases List.mem_cons.1 hv with rfl | hv
     ·exact hr rfl
     ·exact h v hv
 unfold Kd;refine Zv.2 (Qj (GO t) fun r hr=> ?_)
 by_cases h:r=0
 ·rw[if_neg (by simpa using h),bS,bS]
  refine Zv.2 (Qj L fun q hq=> ?_)
  rcases hq with⟨rfl,hq⟩ | rfl
  ·exact QG.2 fun _=>⟨hr h,hq⟩
  ·exact QG.2 fun e=>by cases e
 ·rw[if_pos (by simpa using h)]
  exact QG.2 fun e=>absurd e h
theorem Qa2(t:Qb)(v:gVal):wp (G4 t v) (fun _=>True):=by
 unfold G4;refine Zv.2 (Qj (Uf t [v] (by simp)) fun r hr=> ?_)
 by_cases h:r=0
 ·have:=(hr h).1;subst h
  repeat' (first | exact trivial | (intro _) | (refine And.intro ?_ ?_) | (refine Qj (M7 _ _ (f64 _)) fun _ _=> ?_) | (simp only[zz,↓reduceIte]) | omega)
 ·rw[if_pos (by simpa using h)];repeat' (first | exact trivial | (intro _) | (refine And.intro ?_ ?_) | (simp only[zz,↓reduceIte]) | omega)
theorem Q2t(t:Qb)(a:gVal):wp (Wp t a) (fun _=>True):=by
 unfold Wp Uo WS;repeat' (first | exact trivial | (intro _) | (refine Qj (Uf _ _ (by simp)) fun _ _=> ?_) | (refine Qj (JA _ _) fun _ _=> ?_) | (simp only[zz,↓reduceIte]))
theorem Q2q(t:Qb)(a b:gVal):wp (Wm t a b) (fun _=>True):=by
 unfold Wm Up WO;repeat' (first | exact trivial | (intro _) | (refine Qj (Uf _ _ (by simp)) fun _ _=> ?_) | (refine Qj (JA _ _) fun _ _=> ?_) | (simp only[zz,↓reduceIte]))
theorem Q2u(t:Qb)(a b:gVal):wp (Wq t a b) (fun _=>True):=by
 unfold Wq Uq WT;repeat' (first | exact trivial | (intro _) | (refine Qj (Uf _ _ (by simp)) fun _ _=> ?_) | (refine Qj (JA _ _) fun _ _=> ?_) | (simp only[zz,↓reduceIte]))
theorem Q2s(t:Qb)(a b:gVal):wp (Wo t a b) (fun _=>True):=by
 unfold Wo Ur WQ;refine Zv.2 (Zv.2 (Qj (Uf t [a,b] (by simp)) fun r hr=> ?_))
 by_cases h:r=0
 ·have h0:=(hr h).1;have hb:fits b.fN:=(hr h).2 b (by simp)
  subst h
  repeat' (first | exact trivial | (intro _) | (refine And.intro ?_ ?_) | (refine Qj (ME _ _ _ (f64 _)) fun _ _=> ?_) | (refine Qj (JA _ _) fun _ _=> ?_) | (simp only[zz,↓reduceIte]) | omega)
 ·rw[if_pos (by simpa using h)];repeat' (first | exact trivial | (intro _) | (refine And.intro ?_ ?_) | (simp only[zz,↓reduceIte]) | omega)
theorem Q2r(t:Qb)(a b:gVal):wp (Wn t a b) (fun _=>True):=by
 unfold Wn Us WP;refine Zv.2 (Zv.2 (Qj (Uf t [a,b] (by simp)) fun r hr=> ?_))
 by_cases h:r=0
 ·have h0:=(hr h).1;have hb:fits b.fN:=(hr h).2 b (by simp)
  subst h
  repeat' (first | exact trivial | (intro _) | (refine And.intro ?_ ?_) | (refine Qj (ME _ _ _ (hb)) fun _ _=> ?_) | (refine Qj (JA _ _) fun _ _=> ?_) | (simp only[zz,↓reduceIte]) | omega)
 ·rw[if_pos (by simpa using h)];repeat' (first | exact trivial | (intro _) | (refine And.intro ?_ ?_) | (simp only[zz,↓reduceIte]) | omega)
theorem Q5s(t:Qb)(v:gVal):wp (JI t v) (fun _=>True):=by
 unfold JI;repeat' (first | exact trivial | (intro _) | (refine Qj (GO _) fun _ _=> ?_) | (refine Qj (Q5t _ _ _) fun _ _=> ?_) | (refine Qj (Jv _) fun _ _=> ?_) | (refine Qj (JA _ _) fun _ _=> ?_) | (simp only[zz,↓reduceIte]))
theorem Q46(a:Int):wp (Yz a) (fun _=>True):=by
 unfold Yz;repeat' (first | exact trivial | (simp only[zz,↓reduceIte]))
theorem Ff(o a b:Int):wp (Ux o a b) (fun _=>True):=by
 unfold Ux;repeat' (first | exact trivial | (intro _) | (refine And.intro ?_ ?_) | (refine Qj (Q46 _) fun _ _=> ?_) | (simp only[zz,↓reduceIte]) | omega)
theorem GP(t:Qb):wp (Zo t) (fun _=>True):=by
 rw[Cz];exact QG.2 trivial
theorem Lx(t:Qb)(v:gVal):wp (Y6 t v) (fun _=>True):=by
 unfold Y6;repeat' (first | exact trivial | (intro _) | (refine And.intro ?_ ?_) | (refine Qj (GP _) fun _ _=> ?_) | (refine Qj (ER _ _) fun _ _=> ?_) | (refine Qj (Q46 _) fun _ _=> ?_) | (refine Qj (Jv _) fun _ _=> ?_) | (simp only[zz,↓reduceIte]))
theorem IW(t:Qb)(a b:gVal):wp (VV t a b) (fun _=>True):=by
 unfold VV;repeat' (first | exact trivial | (intro _) | (refine Qj (Lx _ _) fun _ _=> ?_) | (refine Qj (Pq _ _) fun _ _=> ?_) | (simp only[zz,↓reduceIte]))
theorem Af(t:Qb)(a:gVal):wp (JU t a) (fun _=>True):=by
 unfold JU;repeat' (first | exact trivial | (intro _) | (refine Qj (Qa2 _ _) fun _ _=> ?_) | (simp only[zz,↓reduceIte]))
theorem Q11(t u:Qb)(a:gVal):wp (Ga t u a) (fun _=>True):=by
 unfold Ga;repeat' (first | exact trivial | (intro _) | (refine And.intro ?_ ?_) | (refine Qj (GP _) fun _ _=> ?_) | (refine Qj (Lx _ _) fun _ _=> ?_) | (refine Qj (Af _ _) fun _ _=> ?_) | (refine Qj (Q0z _) fun _ _=> ?_) | (refine Qj (Q5s _ _) fun _ _=> ?_) | (simp only[zz,↓reduceIte]))
theorem Ps(t:Qb)(a:gVal):wp (Gb t a) (fun _=>True):=by
 unfold Gb;repeat' (first | exact trivial | (intro _) | (refine Qj (Q2t _ _) fun _ _=> ?_) | (simp only[zz,↓reduceIte]))
theorem RZ(o:Int)(t:Qb)(a b:gVal):wp (VO o t a b) (fun _=>True):=by
 unfold VO;repeat' (first | exact trivial | (intro _) | (refine And.intro ?_ ?_) | (refine Qj (Ff _ _ _) fun _ _=> ?_) | (refine Qj (Q2q _ _ _) fun _ _=> ?_) | (refine Qj (Q2u _ _ _) fun _ _=> ?_) | (refine Qj (Q2s _ _ _) fun _ _=> ?_) | (refine Qj (Q2r _ _ _) fun _ _=> ?_) | (refine Qj (Q5u _ _) fun _ _=> ?_) | (refine Qj (Q5x _ _) fun _ _=> ?_) | (refine Qj (Q5w _ _) fun _ _=> ?_) | (refine Qj (Q5v _ _) fun _ _=> ?_) | (simp only[zz,↓reduceIte]))
theorem ES(o:Int)(t:Qb)(a b:gVal):wp (J1 o t a b) (fun _=>True):=by
 unfold J1;repeat' (first | exact trivial | (intro _) | (refine And.intro ?_ ?_) | (refine Qj (GP _) fun _ _=> ?_) | (refine Qj (Lx _ _) fun _ _=> ?_) | (refine Qj (Ps _ _) fun _ _=> ?_) | (refine Qj (IW _ _ _) fun _ _=> ?_) | (refine Qj (RZ _ _ _ _) fun _ _=> ?_) | (simp only[zz,↓reduceIte]))
theorem Fh(w:QT)(a b:Int)(s:Bool):wp (Jy w a b s) (fun _=>True):=by
 unfold Jy;repeat' (first | exact trivial | (simp only[zz,↓reduceIte]))
theorem OO(w:QT):wp (J9 w) (fun _=>True):=by
 unfold J9;repeat' (first | exact trivial | (simp only[zz,↓reduceIte]) | omega)
theorem t_idxB(l:List Qg)(m:Qo)(hl:l.length≤1048576):wp (ZW l m) (fun r=>r<l.length):=by
 have L:∀i:Int,0≤i→i≤l.length→wp (QK l m l.length i) (fun r=>∀k,r= .inr k→k<l.length):=Pf l.length (by
  rw[QK,if_neg (by omega)]
  exact QG.2 fun k e=>by cases e) (by
  intro i h0 h1 ih;rw[QK,if_pos h1];refine Zv.2 (WC h0 h1 fun x hx=> ?_)
  unfold NO;rw[bS,ZB (by omega)]
  split;·exact QG.2 fun k e=>by cases e;exact h1
  ·exact ih)
 unfold ZW;rw[bS,bS];refine Zv.2 (Qj (L 0 (by omega) (by omega)) fun r hr=> ?_)
 cases r with
 |inl _=>exact QG.2 (by omega)
 |inr k=>exact QG.2 (hr k rfl)
theorem nA64{x:Int}(h:fits x):0≤(x.natAbs:Int)∧(x.natAbs:Int)<18446744073709551616:=by unfold fits at h;omega
theorem Q5z(l:gLin)(env:List Qg)(hl:okL l)(hn:env.length≤1048576)(he:∀b∈env,okB b):wp (NN l env) (fun _=>True):=by
 have L:∀w (i:Int),0≤i→i≤l.fL.length→wp (KJ env w l.fL l.fL.length i) (fun _=>True):=fun w i h0 h1=>by
  refine HI (F:=fun w i=>KJ env w l.fL l.fL.length i) l.fL.length ?_ ?_ i w h0 h1
  ·intro w;rw[KJ];repeat' (first | exact trivial | (simp only[zz,↓reduceIte]))
  ·intro i w h0 h1 ih;have a8:=hl.2.1;rw[KJ,if_pos h1];refine Zv.2 (WC h0 h1 fun x hx=> ?_)
   refine Zv.2 (Qj (t_idxB env x hn) fun r hr=> ?_)
   split;·exact QG.2 trivial
   ·rename_i a9;refine Zv.2 (WC (by omega) hr fun b hb=> ?_)
    have f1:fits x.fBy:=hl.2.2 x hx;have f2:fits b.fp:=he b hb;rw[WE _ f1,bS,WE _ f2,bS,PW _ _ (nA64 f1) (nA64 f2),bS,ZB (by omega)]
    exact Zv.2 (Qj (Fh _ _ _ _) fun w' _=>ih w')
 unfold NN;rw[VA l hl,bS];by_cases hv:Jm l=true
 rotate_left
 ·rw[if_neg hv,if_pos (by decide)];exact QG.2 trivial
 ·rw[if_pos hv,if_neg (by decide),WE _ hl.1,bS]
  refine Zv.2 (Qj (Fh _ _ _ _) fun w _=> ?_)
  rw[bS,bS];refine Zv.2 (Qj (L w 0 (by omega) (by omega)) fun r _=> ?_)
  cases r with
  |inl w=>repeat' (first | exact trivial | (refine Qj (OO _) fun _ _=> ?_) | (simp only[zz,↓reduceIte]))
  |inr w=>repeat' (first | exact trivial | (simp only[zz,↓reduceIte]))
theorem Q7i(o a:Int):wp (G3 o a) (fun _=>True):=by
 unfold G3;repeat' (first | exact trivial | (simp only[zz,↓reduceIte]))
theorem t_ev(env:List Qg)(hn:env.length≤1048576)(he:∀b∈env,okB b):∀e:Qc,okE e→Eh e→sta e=true→(isC e.f=false→wp (XH e.f env) (fun _=>True))∧(isC e.f=true→wp (KQ e.f env) (fun _=>True)):=Qc.ind fun x ih hx hg hs=>by
 obtain⟨g1,g2⟩:=hg.args;obtain⟨hp,hr,ht⟩:=RU g1;obtain⟨o1,o2,o3,o4,o5⟩:=hx.of;have a4:=ar_of hr ht;rw[sta_mk,cqb,cqt] at hs;obtain⟨a7,a8⟩:=hs;have a7:x.fOp≠3:=by simpa using a7
 simp only[Qc.f_mk] at*;have hv:∀a∈x.fe,isC a.f=false→wp (XH a.f env) (fun _=>True):=fun a ha=>(ih a ha (o5 a ha) (g2 a ha) (a8 a ha)).1
 have hc:∀a∈x.fe,isC a.f=true→wp (KQ a.f env) (fun _=>True):=fun a ha=>(ih a ha (o5 a ha) (g2 a ha) (a8 a ha)).2
 have hC:isC x=true↔13≤x.fOp∧x.fOp≤18:=by unfold isC;simp
 have ae:isC x=false↔¬(13≤x.fOp∧x.fOp≤18):=by rw[← hC];simp
 rw[hC,ae];have ak:1≤x.fOp∧x.fOp≤18:=by
  unfold plE at hp;rw[cqb] at hp;have:=of_decide_eq_true hp.1;omega
 have ab:x.fOp=1∨x.fOp=2→wp (DQ env x) (fun _=>True):=fun h=>by
  unfold DQ;repeat' (first | exact trivial | (intro _) | (refine And.intro ?_ ?_) | (refine Qj (Q5z _ _ o1 hn he) fun _ _=> ?_) | (simp only[zz,↓reduceIte]) | omega)
 have pair:∀a b:Qc,x.fe=[a,b]→isC a.f=false→isC b.f=false→wp (DR env x) (fun _=>True):=fun a b e c d=>by
  have i0:ix x.fe 0=some a:=by rw[e];rfl
  have i1:ix x.fe 1=some b:=by rw[e];rfl
  have ha:=hv a (by rw[e];simp) c
  have hb:=hv b (by rw[e];simp) d
  rw[DR];simp only[i0,i1,omS,bS]
  repeat' (first | exact trivial | (intro _) | (refine And.intro ?_ ?_) | (refine Qj (ha) fun _ _=> ?_) | (refine Qj (hb) fun _ _=> ?_) | (simp only[zz,↓reduceIte]) | omega)
 cases a4 with
 |a0 h e=>
  refine⟨fun _=> ?_,fun q=>by omega⟩
  rw[XH]
  repeat' (first | exact trivial | (intro _) | (refine And.intro ?_ ?_) | (refine Qj (ab (by omega)) fun _ _=> ?_) | (simp only[zz,↓reduceIte]) | omega)
 |a1 h a e c=>
  refine⟨fun _=> ?_,fun q=>by omega⟩
  have i0:ix x.fe 0=some a:=by rw[e];rfl
  have ha:=hv a (by rw[e];simp) c
  have a4:wp (Gz env x) (fun _=>True):=by
   rw[Gz];simp only[i0,omS,bS]
   repeat' (first | exact trivial | (intro _) | (refine And.intro ?_ ?_) | (refine Qj (ha) fun _ _=> ?_) | (refine Qj (Q11 _ _ _) fun _ _=> ?_) | (refine Qj (ES _ _ _ _) fun _ _=> ?_) | (simp only[zz,↓reduceIte]) | omega)
  rw[XH]
  repeat' (first | exact trivial | (intro _) | (refine And.intro ?_ ?_) | (refine Qj (a4) fun _ _=> ?_) | (simp only[zz,↓reduceIte]) | omega)
 |aN h a e c=>
  refine⟨fun q=>by omega,fun _=> ?_⟩
  have i0:ix x.fe 0=some a:=by rw[e];rfl
  have ha:=hc a (by rw[e];simp) c
  rw[KQ,Cj];simp only[i0,omS,bS]
  repeat' (first | exact trivial | (intro _) | (refine And.intro ?_ ?_) | (refine Qj (ha) fun _ _=> ?_) | (simp only[zz,↓reduceIte]) | omega)
 |aB h a b e c d=>
  refine⟨fun q=>by omega,fun _=> ?_⟩
  have i0:ix x.fe 0=some a:=by rw[e];rfl
  have i1:ix x.fe 1=some b:=by rw[e];rfl
  have ha:=hc a (by rw[e];simp) c
  have hb:=hc b (by rw[e];simp) d
  rw[KQ,Cj];simp only[i0,i1,omS,bS]
  repeat' (first | exact trivial | (intro _) | (refine And.intro ?_ ?_) | (refine Qj (ha) fun _ _=> ?_) | (refine Qj (hb) fun _ _=> ?_) | (simp only[zz,↓reduceIte]) | omega)
 |aI h a b c e h1 h2 h3=>
  refine⟨fun _=> ?_,fun q=>by omega⟩
  have i0:ix x.fe 0=some a:=by rw[e];rfl
  have i1:ix x.fe 1=some b:=by rw[e];rfl
  have i2:ix x.fe 2=some c:=by rw[e];rfl
  have ha:=hc a (by rw[e];simp) h1
  have hb:=hv b (by rw[e];simp) h2
  have af:=hv c (by rw[e];simp) h3
  rw[XH];simp only[i0,i1,i2,omS,bS]
  repeat' (first | exact trivial | (intro _) | (refine And.intro ?_ ?_) | (refine Qj (ha) fun _ _=> ?_) | (refine Qj (hb) fun _ _=> ?_) | (refine Qj (af) fun _ _=> ?_) | (simp only[zz,↓reduceIte]) | omega)
 |a2 h a b e h1 h2=>
  have a6:=pair a b e h1 h2;refine⟨fun _=> ?_,fun _=> ?_⟩
  ·have a4:wp (Gz env x) (fun _=>True):=by
    rw[Gz]
    repeat' (first | exact trivial | (intro _) | (refine And.intro ?_ ?_) | (refine Qj (a6) fun _ _=> ?_) | (refine Qj (ES _ _ _ _) fun _ _=> ?_) | (simp only[zz,↓reduceIte]) | omega)
   rw[XH]
   repeat' (first | exact trivial | (intro _) | (refine And.intro ?_ ?_) | (refine Qj (a4) fun _ _=> ?_) | (simp only[zz,↓reduceIte]) | omega)
  ·rw[KQ,Cj]
   repeat' (first | exact trivial | (intro _) | (refine And.intro ?_ ?_) | (refine Qj (a6) fun _ _=> ?_) | (refine Qj (IW _ _ _) fun _ _=> ?_) | (refine Qj (Q7i _ _) fun _ _=> ?_) | (simp only[zz,↓reduceIte]) | omega)
theorem Q2p(env:List Qg)(hn:env.length≤1048576)(he:∀b∈env,okB b)(x:Q3)(hx:okE (.mk x))(hs:sta (.mk x)=true):wp (GA [] env x) (fun _=>True):=by
 unfold GA;rw[F0 x hx,bS];by_cases h:GJ x=0
 ·rw[if_neg (by simpa using h),Da,bS]
  cases hc:isC x with
  |false=>repeat' (first | exact trivial | (simp only[zz,↓reduceIte]) | (simp_all;done))
  |true=>
   have a3:=(t_ev env hn he (.mk x) hx (Pb h).1 hs).2 hc;simp only[Qc.f_mk] at a3;rw[if_neg (by decide)]
   unfold Ha R9;rw[bS,bS]
   repeat' (first | exact trivial | (refine Qj (a3) fun _ _=> ?_) | (simp only[zz,↓reduceIte]) | (simp_all;done))
 ·rw[if_pos (by simpa using h)];repeat' (first | exact trivial | (simp only[zz,↓reduceIte]) | (simp_all;done))
def VP(r:List Int):AV:=.ow 0 0 1 (List.length r)
def VJ(r:List Int):List Box:=[.own 0 1 (List.map eI r)]
theorem Mp(x0:List Int)(r:List Int)(h:Xm x0=some r):PH 47 [eLI x0] [] (VP r) (VJ r):=by
 unfold Xm at h;split at h
 ·rename_i hc;cases h;exact PuH1 (kb:=[{slot:=0,path:=[],own:=1}]) (φ:=(List.map eI x0=[]→LeVs [.ow 0 0 1 0] [.ow 0 0 1 (List.length x0)]∧LeBs [.own 0 1 []] [.own 0 1 (List.map eI x0)])∧(0=0∧(0+List.length (List.map eI x0))*8≤140737488355328∧0+List.length (List.map eI x0)≤9223372036854775807)∧∃l,(List.map eI l=[]++List.map eI x0∧List.length l=0+List.length (List.map eI x0))∧LeVs [.ow 0 0 1 (List.length l)] [.ow 0 0 1 (List.length x0)]∧LeBs [.own 0 1 (List.map eI l)] [.own 0 1 (List.map eI x0)])
   (hs:=[(4,.nn),(7,.z [{slot:=5,own:=1}] (some (.n eI 7 (some .a))))]) (by kernel_rfl)
   ⟨fun e=>by have e1:x0=[]:=List.map_eq_nil_iff.1 e;subst e1;exact⟨.refl _,.refl _⟩,⟨rfl,by simpa using hc⟩,x0,⟨by simp,by simp⟩,⟨.refl _,.refl _⟩⟩
 ·cases h
end Go.Proofs.YtkgphhemcglgnaaGreatDoor
noncomputable section
namespace Go.Proofs.YtkgphhemcglgnaaGreatDoor
open Go HY
set_option maxRecDepth 1000000
def Ue(x0:Qf):Option Bool:=
 if x0.fOp==2 then
 some true
 else
 some (x0.fOp==3)
theorem EL(x0 r)(h:Ue x0=some r):PU 48 [Qt x0] (eB r):=
 Pu4 (hs:=[(5,.split)]) (Ue.eq_1 x0) h
@[reducible,instance] def Qch x0:=Lw.mk (EL x0)
def Yy(r:List (List Int)):AV:=.tup []
def Yp(r:List (List Int)):List Box:=[.cells 0 [.ow 1 0 1 (List.length r)],.own 0 1 (List.map eLI r),.cells 0 [.fn 46 [.ptr 0 0 0,.ptr 2 0 0]]]
abbrev Ua(s:List Int)(u:((List Q0)×Int))(o:List (List Int)):List Alt:=[⟨fun(x:List (List Int))=>x=o,.exit 0,fun x=>[.ptr 0 0 0,.ptr 2 0 0],fun x=>[.cells 0 [.ow 1 0 1 (List.length x)],.own 0 1 (List.map eLI x),.cells 0 [.fn 46 [.ptr 0 0 0,.ptr 2 0 0]]]⟩]
abbrev Vh(s:((List Int)× (List Q0)×Int))(u:(Qf× (List Int)×Int))(o:List (List Int)):List Alt:=[⟨fun(x:List (List Int))=>x=o,.normal,fun x=>[.sl 1 (List.map eI (s.1)),.ptr 0 0 0,.ptr 2 0 0,.ptr 3 0 0,.sl 1 (List.map eI (u.2.1)),.sl 20 (List.map Q9 (s.2.1)),ii (s.2.2),ii (u.2.2)],fun x=>[.cells 0 [.ow 1 0 1 (List.length x)],.own 0 1 (List.map eLI x),.cells 0 [.fn 46 [.ptr 0 0 0,.ptr 2 0 0]],.cells 0 (Qt (u.1)).cells]⟩]
abbrev Vi(s:((List Int)× (List Q0)×Int))(u:Int)(o:List (List Int)):List Alt:=[⟨fun(x:List (List Int))=>x=o,.normal,fun x=>[.sl 1 (List.map eI (s.1)),.ptr 0 0 0,.ptr 2 0 0,.sl 20 (List.map Q9 (s.2.1)),ii (s.2.2),ii u],fun x=>[.cells 0 [.ow 1 0 1 (List.length x)],.own 0 1 (List.map eLI x),.cells 0 [.fn 46 [.ptr 0 0 0,.ptr 2 0 0]]]⟩]
mutual
def XM(x0:List Q0)(x1:List Int)(x2:List (List Int)):Option (List (List Int)):=
 some (List.length x0:Int)>>=fun v0=>
 some (x0,v0)>>=fun v1=>
 X4 x1 x2 x0 v0 0>>=fun v3=>
 some v3
 partial_fixpoint
def X4(x1:List Int)(x2:List (List Int))(x9:List Q0)(a4:Int)(a3:Int):Option (List (List Int)):=
 if a3<a4 then
 some a3>>=fun v0=>
 (Option.map Q0.f (ix x9 a3)>>=fun v2=>
 Xm x1>>=fun v3=>
 if(v3.length+(1:Nat))*(8:Nat)≤(140737488355328:Nat)∧v3.length+(1:Nat)≤(9223372036854775807:Nat) then
 some (v3++[a3])>>=fun v4=>
 some (v2,v4,a3)>>=fun v5=>
 (Ue v2>>=fun v7=>if v7 then
 if(x2.length+(1:Nat))*(24:Nat)≤(140737488355328:Nat)∧x2.length+(1:Nat)≤(9223372036854775807:Nat) then
 some (x2++[v4])>>=fun v8=>
 some v8
 else none
 else
 some x2)>>=fun v9=>
 XM v5.fst.fd v5.snd.fst v9>>=fun a6=>
 some a6
 else none)>>=fun a7=>
 X4 x1 a7 x9 a4 (wr (v0+1))
 else
 some x2
 partial_fixpoint
end
theorem Hr:(∀(x0:List Q0) (x1:List Int) (x2:List (List Int)) (r:List (List Int)),XM x0 x1 x2=some r→PH 46 [Z7 x0,eLI x1,.ptr 0 0 0,.ptr 2 0 0] [.cells 0 [.ow 1 0 1 (List.length x2)],.own 0 1 (List.map eLI x2),.cells 0 [.fn 46 [.ptr 0 0 0,.ptr 2 0 0]]] (Yy r) (Yp r))∧(∀(x1:List Int) (x2:List (List Int)) (x9:List Q0) (a3:Int) (a6:Int) (o:List (List Int)),X4 x1 x2 x9 a3 a6=some o→LOp [.ptr 0 0 0,.ptr 2 0 0] 46 1 33 [1,2,3,9,10,11] [.sl 1 (List.map eI x1),.ptr 0 0 0,.ptr 2 0 0,.sl 20 (List.map Q9 x9),ii a3,ii a6] [.cells 0 [.ow 1 0 1 (List.length x2)],.own 0 1 (List.map eLI x2),.cells 0 [.fn 46 [.ptr 0 0 0,.ptr 2 0 0]]] [2,3] (Ua x1 (x9,a3) o)):=
 XM.mutual_partial_correctness _ _
 (fun X4 Qer x0 x1 x2 r h=>
 have i0 a b c d e:=Ll.mk (Qer a b c d e);PuH4 (hs:=[(10,.n eI 10 none),(3000002,.l [] [1,2,3,9,10,11] [kk 2,{slot:=2,path:=[0],own:=1},kk 3] [2,3] [kk 2,{slot:=2,path:=[0],own:=1},kk 3] (Ua x1))]) (kb:=[kk 1,{slot:=1,path:=[0],own:=1},kk 2]) rfl h)
 (fun XM X4 Qeq Qer x1 x2 x9 a3 a6 o h=>
 have i0 a b c d e:=Ll.mk (Qer a b c d e);Lp4p (hs:=[(12,.split),(14,.e Qt),(17,.h [] VP VJ),(20,.z [{slot:=17,own:=1}] (some (.n eI 20 (some .a)))),(8,.z [{slot:=20,fz:=true}] none),(22,.cb),(26,.z [{slot:=23,own:=1}] (some (.n eLI 26 (some .a)))),(31,.h [kk 2,{slot:=2,path:=[0],own:=1},kk 3] Yy Yp),(6000006,.l [] [] [] [1,2,3,7,8,9,10,11] [kk 2,{slot:=2,path:=[0],own:=1},kk 3,kk 7,{slot:=8,fz:=true}] (Vh (x1,x9,a3))),(7000001,.l [] [] [] [1,2,3,9,10,11] [kk 2,{slot:=2,path:=[0],own:=1},kk 3] (Vi (x1,x9,a3)))]) (kb:=[kk 2,{slot:=2,path:=[0],own:=1},kk 3]) (kbx:=[kk 2,{slot:=2,path:=[0],own:=1},kk 3]) rfl h (q:=qD (hA:=qJ (Vi (x1,x9,a3)) (hI:=fun v0 v1=>qIxR (hA:=fun v2=>qH (sh:=VP) (bt:=VJ) (Mp x1) (hA:=fun v3=>qA v3 (hA:=qO (mA (sh:=eI) v3 a6) (nA v3 a6) (hA:=fun v4=>qT (nM (sh:=eI) v4) (hA:=⟨fun ab=>kJ1E (id:=6000006) (v2,v4,a6) (fun v5 a8 v6=>(kCb (EL v2) (kA (q:=(x2.length+(1:Nat))*(24:Nat)≤(140737488355328:Nat)∧x2.length+(1:Nat)≤(9223372036854775807:Nat)) (sh:=eLI) (l:=x2) (kO (sh:=eLI) (x2++[v4]) (mA (sh:=eLI) x2 v4) (nA x2 v4) fun v8=>(kXj (alts:=Vh (x1,x9,a3)) a8 v8 (.here _ rfl (.refl _) (.refl _)))))
 (kXj (alts:=Vh (x1,x9,a3)) a8 x2 (.here _ rfl (.refl _) (.refl _)))))
 (fun v5 a8 v9=>(kH (sh:=Yy) (bt:=Yp) (Qeq v5.fst.fd v5.snd.fst v9) fun ad=>(kXj (alts:=Vi (x1,x9,a3)) (u0:=v5.snd.snd) (by subst a8;exact ab) ad (.here _ rfl (.refl _) (.refl _)))))⟩)))))))))
theorem E5(x0 x1 x2 r)(h:XM x0 x1 x2=some r):PH 46 [Z7 x0,eLI x1,.ptr 0 0 0,.ptr 2 0 0] [.cells 0 [.ow 1 0 1 (List.length x2)],.own 0 1 (List.map eLI x2),.cells 0 [.fn 46 [.ptr 0 0 0,.ptr 2 0 0]]] (Yy r) (Yp r):=(Hr).1 x0 x1 x2 r h
def K9(x0:Qp):Option (List (List Int)):=
 XM x0.fd [] []>>=fun v0=>
 some v0
theorem Ro(x0 r)(h:K9 x0=some r):PU 15 [Zf x0] (eLLI r):=
 Pu4 (hs:=[(9,.h [kk 2,{slot:=2,path:=[0],own:=1},kk 3] Yy Yp)]) (K9.eq_1 x0) h (q:=qH (sh:=Yy) (bt:=Yp) (fun y hy=>PuH.le (E5 x0.fd [] [] y hy) (.cons lr (.cons (LeV.nil 1) (.cons lr (.cons lr .nil)))) (.refl _) (.refl _) (.refl _)) (hA:=fun v0=>qT (nM (sh:=eLI) v0)))
@[reducible,instance] def Q6y x0:=Lw.mk (Ro x0)
abbrev G0(s:Unit)(u:((List Int)×Int))(o:List Int):List Alt:=[⟨fun(x:List Int)=>x=o,.exit 0,fun x=>[.sl 1 (List.map eI32 x)],fun x=>[]⟩]
def KW(x3:List Int)(x6:List Int)(x7:Int)(x8:Int):Option (List Int):=
 if x8<x7 then
 ix x6 x8>>=fun v0=>
 if(x3.length+(1:Nat))*(4:Nat)≤(140737488355328:Nat)∧x3.length+(1:Nat)≤(9223372036854775807:Nat) then
 some (x3++[(IntKind.i32.wrap v0)])>>=fun v1=>
 KW v1 x6 x7 (wr (x8+1))
 else none
 else
 some x3
 partial_fixpoint
theorem P5(x3 x6 x7 x8 o)(h:KW x3 x6 x7 x8=some o):LO 43 3 20 [3,6,7,8] [.ow 0 0 1 (List.length x3),.sl 1 (List.map eI x6),ii x7,ii x8] [.own 0 1 (List.map eI32 x3)] [3] (G0 () (x6,x7) o):=
 KW.partial_correctness x6 x7 (fun x3 x8 o=>LO 43 3 20 [3,6,7,8] [.ow 0 0 1 (List.length x3),.sl 1 (List.map eI x6),ii x7,ii x8] [.own 0 1 (List.map eI32 x3)] [3] (G0 () (x6,x7) o))
 (fun KW Qew x3 x8 o h=>
 Lp2 (hs:=[(9,.split),(10,.e eI),(16,.z [{slot:=12,own:=1}] (some (.n eI32 16 (some .a))))]) (kb:=[{slot:=3,own:=1}]) (kbx:=[{slot:=3,fz:=true}]) ((kIfD (p:=x8<x7) (kIx (enc:=eI) (l:=x6) (k:=x8) fun v0=>(kA (q:=(x3.length+(1:Nat))*(4:Nat)≤(140737488355328:Nat)∧x3.length+(1:Nat)≤(9223372036854775807:Nat)) (sh:=eI32) (l:=x3) (kO (sh:=eI32) (x3++[(IntKind.i32.wrap v0)]) (mA (sh:=eI32) x3 (IntKind.i32.wrap v0)) (nA x3 (IntKind.i32.wrap v0)) fun v1=>(kM0 (alts:=G0 () (x6,x7)) (Qew v1 (wr (x8+1)))))))
 (kT (nM (sh:=eI32) x3) (kX (alts:=G0 () (x6,x7)) x3 (.here _ rfl (.refl _) (.refl _))))) h)) x3 x8 o h
@[reducible,instance] def Qby x3 x6 x7 x8:=Ll.mk (P5 x3 x6 x7 x8)
def Df(x0:List Int):Option Str:=
 some (List.length x0:Int)>>=fun v0=>
 some (x0,v0)>>=fun v1=>
 KW [] x0 v0 0>>=fun v3=>
 some v3>>=fun v4=>
 some (LN v4)
theorem Hg(x0 r)(h:Df x0=some r):PU 43 [eLI x0] (eS r):=
 Pu4 (hs:=[(7,.n eI 7 none),(3000004,.l [] [3,6,7,8] [{slot:=3,own:=1}] [3] [{slot:=3,fz:=true}] (G0 ()))]) (Df.eq_1 x0) h (q:=qN (hA:=fun v0=>qL1 (hA:=fun v1 v3=>⟨fun _=>kB (sh:=rI32) v3 (rfl:List.map rI32 v3=List.map rI32 v3) fun v4=>(kEr (enc:=eS) (LN v4))⟩)))
@[reducible,instance] def i_trace_key x0:=Lw.mk (Hg x0)
def eO20(_:Unit):AV:=.agg [.undef,.undef,.undef,.undef,.undef,.undef,.undef,.undef,.undef,.undef,.undef,.undef,.undef,.undef,.undef,.undef,.undef,.undef,.undef,.undef]
def eLO20(x:List Unit):AV:=.sl 20 (List.map eO20 x)
abbrev gBk:= {l:List Unit//l.length≤4611686018427387904}
def ipS(l:List Unit):AV:=.ip 1 [.agg [.sl 20 (List.map eO20 l)]] 0 0
def hgBk(x:gBk):AV:=.fn 178 [ipS x.1]
def yvS(l:Nat):AV:=.val (.func (.yield l) #[] #[])
def bkR:List Unit→List (List AV)
 | []=>[]
 |e::t=>[.int .i64 t.length,eO20 e]::bkR t
theorem AH:∀l,(bkR l).length=l.length
 | []=>rfl
 |_::t=>by simp[bkR,AH t]
theorem Q33{l:Nat}{xs:List (List AV)}{m:Nat}{a:List Unit}(hn:a.length≤4611686018427387904):
  ∀(t d:List Unit) (k:Nat),a=t.reverse++d→k+t.length=m→(∀(j:Nat) (y:List AV),(bkR t)[j]? =some y→xs[k+j]? =some y)→
   JLo 178 1 19 l xs [0,1,3] [yvS l,ipS a,.int .i64 ((t.length:Int) - 1)] [] (some k) [] (.exit 0,[]) (.ret,[]) m
 |t,d,k,ha,hm,hx=>by
  refine JL1 (φ:=(decide ((0:Int)≤(t.length:Int) - 1)=true→∃x:Unit,((0:Int)≤(t.length:Int) - 1∧(a.map eO20)[Int.toNat ((t.length:Int) - 1)]? =some (eO20 x))∧l=l∧xs[k]? =some [.int .i64 ((t.length:Int) - 1),eO20 x]∧
   NxtJ Tryz.prog gls l xs 19 (KN Tryz.prog 178 (1+1)) [0,1,3] [] (.exit 0,[]) (.ret,[]) m [yvS l,ipS a,.int .i64 (wr ((t.length:Int) - 1 - 1))] [] (some (k+1))∧JO (.exit 0,[]) (.ret,[]) m .ret none [] [])∧
   (decide ((0:Int)≤(t.length:Int) - 1)=false→JO (.exit 0,[]) (.ret,[]) m (.exit 0) (some k) [] [])) (hs:=[(8,.split),(15,.e eO20)]) (js:=[]) (kb:=[]) (by kernel_rfl) (by kernel_rfl) ⟨fun h=> ?_,fun h=> ?_⟩
  ·have h:=of_decide_eq_true h;cases t with
   |nil=>simp at h
   |cons e t=>
    have h0:=hx 0 _ rfl;have a5:t.length<a.length:=by rw[ha];simp
    have he:((e::t).length:Int) - 1=t.length:=by simp
    rw[he] at h ⊢;refine⟨e,⟨h,?_⟩,rfl,h0,⟨_,_,?_,.refl _,Q33 hn t (e::d) (k+1) (by rw[ha];simp) (by rw[← hm];simp;omega) (fun j y hj=> ?_)⟩,.b rfl rfl rfl⟩
    ·rw[cqs,cqm,ha];simp
    ·rw[ZB (by omega)];exact .refl _
    ·have:=hx (j+1) y hj;rw[← this];congr 1;omega
  ·have h:=of_decide_eq_false h;cases t with
   |nil=>exact .a rfl (by rw[← hm];rfl) rfl
   |cons e t=>simp at h
 termination_by t=>t.length
theorem It_Back(x:gBk):ItOk Tryz.prog gls 178 [ipS x.1] (bkR x.1.reverse):=
 ItOk.of (Ve (by kernel_rfl)) false fun l=>
  JF1 (φ:=∃q,JLo 178 1 19 l (bkR x.1.reverse) [0,1,3] [yvS l,ipS x.1,.int .i64 (wr (((List.map eO20 x.1).length:Nat) - 1))] [] (some 0) [] (.exit 0,[]) (.ret,[]) q∧JQ false (bkR x.1.reverse).length (.tup []) (some q)∧JQ false (bkR x.1.reverse).length (.tup []) none)
   (hs:=[]) (js:=[(2,⟨[0,1,3],[],[],(.exit 0,[]),(.ret,[])⟩)]) (by kernel_rfl) ⟨(bkR x.1.reverse).length,by
    have hl:=x.2;rw[List.length_map,ZB (by omega)]
    have:=Q33 (l:=l) (xs:=bkR x.1.reverse) (m:=(bkR x.1.reverse).length) hl x.1.reverse [] 0 (by simp) (by simp[AH]) (fun j y hj=>by rw[Nat.zero_add];exact hj)
    rw[List.length_reverse] at this;exact this,⟨rfl,.inl rfl⟩,⟨rfl,.inr rfl⟩⟩
open Classical in
noncomputable def KK(x0:List Unit):Option gBk:=if h:x0.length≤4611686018427387904 then some ⟨x0,h⟩ else none
theorem D6(x0:List Unit)(r:gBk)(h:KK x0=some r):PU 133 [eLO20 x0] (hgBk r):=by
 unfold KK at h;split at h
 ·cases h;exact Pu1 (φ:=LeT (.fn 178 [ipS x0]) (.fn 178 [ipS x0])) (hs:=[(3,.z [{slot:=1,fz:=true}] none)]) (by kernel_rfl) (.refl _)
 ·cases h
noncomputable def WGp(ps:List AV)(f r n:Nat)(hs:QH)(ks:List Nat)(kb kbx:List KB)(vs:List AV)(alts:List Alt)(x:List AV)(xs:List (List AV))(bs:List Box):Prop:=
 wrng Tryz.prog gls ch0 wf0 hs ps 2000 n (rng Tryz.prog f (r+1)).1 (rng Tryz.prog f (r+1)).2.1 (rng Tryz.prog f (r+1)).2.2 ks kb kbx vs alts x bs (NxtR Tryz.prog gls ps n (rng Tryz.prog f (r+1)).1 (rng Tryz.prog f (r+1)).2.1 (rng Tryz.prog f (r+1)).2.2 ks vs alts xs)
theorem Rg1p{φ:Prop}{ps:List AV}{f r n:Nat}{hs:QH}{ks:List Nat}{kb kbx:List KB}{vs:List AV}{alts:List Alt}{x:List AV}{xs:List (List AV)}{bs:List Box}(a3:(QN (rng Tryz.prog f (r+1)).2.1&&QN (rng Tryz.prog f (r+1)).2.2)=true)(e:φ=WGp ps f r n hs ks kb kbx vs alts x xs bs)(h:φ):
  GF Tryz.prog gls ps n (rng Tryz.prog f (r+1)).1 (rng Tryz.prog f (r+1)).2.1 (rng Tryz.prog f (r+1)).2.2 ks vs alts (x::xs) bs:=by
 rw[cqb] at a3;exact GF.step (hs:=hs) V5 Vp WX a3.1 a3.2 (show WGp ps f r n hs ks kb kbx vs alts x xs bs from e▸h)
def Kt(s:List Int)(u:Q1)(o:Unit):List Alt:=[⟨fun(x:Unit)=>x=o,.normal,fun x=>[.ptr 0 0 0,.sl 1 (List.map eI s),.ptr 5 0 0],fun x=>[.cells 0 [.mp 1,.int .i64 u.ff,.ow 2 0 2 (List.length u.fh),.ow 3 0 13 (List.length u.fa),.ow 4 0 22 (List.length u.fu)],.mapI u.fj,.own 0 2 (List.map Qe u.fh),.own 0 13 (List.map Qh u.fa),.own 0 22 (List.map Qk u.fu),.cells 0 (eO20 ()).cells]⟩]
def VN(w:gBk)(x0:Q1)(x2:List Int):Option Unit:=some ()
theorem rd_R14(u:Q1)(s:List Int):∀(l:List Unit),GF Tryz.prog gls [.ptr 0 0 0,.mp 1] 108 (rng Tryz.prog 93 (14+1)).1 (rng Tryz.prog 93 (14+1)).2.1 (rng Tryz.prog 93 (14+1)).2.2 [0,2,7] [.ptr 0 0 0,.sl 1 (List.map eI s),.ptr 5 0 0] (Kt s u ()) (bkR l)
  [.cells 0 [.mp 1,.int .i64 u.ff,.ow 2 0 2 (List.length u.fh),.ow 3 0 13 (List.length u.fa),.ow 4 0 22 (List.length u.fu)],.mapI u.fj,.own 0 2 (List.map Qe u.fh),.own 0 13 (List.map Qh u.fa),.own 0 22 (List.map Qk u.fu),.cells 0 (eO20 ()).cells]
 | []=>⟨rfl,.here () rfl (.refl _) (.refl _)⟩
 |e::t=>by
  refine Rg1p (φ:=LeVs [.ptr 0 0 0,.sl 1 (List.map eI s),.ptr 5 0 0] [.ptr 0 0 0,.sl 1 (List.map eI s),.ptr 5 0 0]∧NxtR Tryz.prog gls [.ptr 0 0 0,.mp 1] 108 (rng Tryz.prog 93 (14+1)).1 (rng Tryz.prog 93 (14+1)).2.1 (rng Tryz.prog 93 (14+1)).2.2 [0,2,7] [.ptr 0 0 0,.sl 1 (List.map eI s),.ptr 5 0 0] (Kt s u ()) (bkR t)
   [.cells 0 [.mp 1,.int .i64 u.ff,.ow 2 0 2 (List.length u.fh),.ow 3 0 13 (List.length u.fa),.ow 4 0 22 (List.length u.fu)],.mapI u.fj,.own 0 2 (List.map Qe u.fh),.own 0 13 (List.map Qh u.fa),.own 0 22 (List.map Qk u.fu),.cells 0 (eO20 ()).cells])
   (hs:=[]) (kb:=[{slot:=0},{slot:=0,path:=[0]},{slot:=0,path:=[2],own:=2},{slot:=0,path:=[3],own:=13},{slot:=0,path:=[4],own:=22},{slot:=7}]) (kbx:=[]) (by kernel_rfl) (by kernel_rfl) ⟨.refl _,_,.refl _,rd_R14 u s t⟩
theorem Gt(w:gBk)(x0:Q1)(x2:List Int)(o:Unit)(h:VN w x0 x2=some o):∃xs,ItOk Tryz.prog gls 178 [ipS w.1] xs∧GF Tryz.prog gls [.ptr 0 0 0,.mp 1] 108 (rng Tryz.prog 93 (14+1)).1 (rng Tryz.prog 93 (14+1)).2.1 (rng Tryz.prog 93 (14+1)).2.2 [0,2,7] [.ptr 0 0 0,.sl 1 (List.map eI x2),.ptr 5 0 0] (Kt x2 x0 o) xs
  [.cells 0 [.mp 1,.int .i64 x0.ff,.ow 2 0 2 (List.length x0.fh),.ow 3 0 13 (List.length x0.fa),.ow 4 0 22 (List.length x0.fu)],.mapI x0.fj,.own 0 2 (List.map Qe x0.fh),.own 0 13 (List.map Qh x0.fa),.own 0 22 (List.map Qk x0.fu),.cells 0 (eO20 ()).cells]:=
 ⟨_,It_Back w,rd_R14 x0 x2 w.1.reverse⟩
def Na(x:Unit×Int):AV:=.tup [eO20 x.1,eI x.2]
noncomputable def KU(x0:Qf)(x1:List Qg):Option (Unit×Int):=Vx x0 x1>>=fun r=>some ((),r.2)
theorem Uz(x0:Qf)(x1:List Qg)(r:Unit×Int)(h:KU x0 x1=some r):PU 132 [Qt x0,Z3 x1] (Na r):=by
 unfold KU at h;cases hc:Vx x0 x1 with
 |none=>rw[hc] at h;cases h
 |some q=>
  rw[hc] at h;cases h;refine Pu.le (SN x0 x1 q hc) (.cons (.refl _) (.cons (.refl _) .nil)) (LeT.tup (.cons (LeT.agg ?_) (.cons (.refl _) .nil)));exact .cons (.undef _) (.cons (.undef _) (.cons (.undef _) (.cons (.undef _) (.cons (.undef _) (.cons (.undef _) (.cons (.undef _) (.cons (.undef _) (.cons (.undef _) (.cons (.undef _) (.cons (.undef _) (.cons (.undef _) (.cons (.undef _) (.cons (.undef _) (.cons (.undef _) (.cons (.undef _) (.cons (.undef _) (.cons (.undef _) (.cons (.undef _) (.cons (.undef _) (.nil))))))))))))))))))))
end Go.Proofs.YtkgphhemcglgnaaGreatDoor
noncomputable section
namespace Go.Proofs.YtkgphhemcglgnaaGreatDoor
open Go HY
set_option maxRecDepth 1000000
abbrev VI(s:Unit)(u:(Q1×Int))(o:QE):List Alt:=[⟨fun(x:QE)=>x=o,.exit 4,fun x=>[.ptr 0 0 0,.ptr 5 0 0],fun x=>[.cells 0 [.mp 1,ii u.1.ff,.ow 2 0 2 (List.length u.1.fh),.ow 3 0 13 (List.length u.1.fa),.ow 4 0 22 (List.length u.1.fu)],.mapI u.1.fj,.own 0 2 (List.map Qe u.1.fh),.own 0 13 (List.map Qh u.1.fa),.own 0 22 (List.map Qk u.1.fu),.cells 0 [ii x.fM,.ow 6 0 1 (List.length x.fAt),.undef,.undef,.undef,.undef,.undef,.undef,.undef,.undef,.undef,.undef,.undef,.undef,.undef,.undef,.undef,.undef,.undef,.undef,.undef,.undef],.own 0 1 (List.map eI x.fAt)]⟩]
def Zi(x0:Q1)(a3:QE)(a5:Int)(a4:Int):Option QE:=
 if a4<a5 then
 if 0≤a4∧a4< (↑x0.fh.length:Int) then
 x0.fh[a4.toNat]? >>=fun v0=>
 if(a3.fAt.length+(1:Nat))*(8:Nat)≤(140737488355328:Nat)∧a3.fAt.length+(1:Nat)≤(9223372036854775807:Nat) then
 some (a3.fAt++[v0.fp])>>=fun v1=>
 Zi x0 (QE.mk a3.fM v1) a5 (wr (a4+1))
 else none
 else none
 else
 some (QE.mk a3.fM a3.fAt)
 partial_fixpoint
theorem Gs(x0 a3 x85 a4 o)(h:Zi x0 a3 x85 a4=some o):LOp [.ptr 0 0 0,.mp 1] 93 21 108 [0,16,84,85,86] [.ptr 0 0 0,.ptr 5 0 0,.ow 2 0 2 (List.length x0.fh),ii x85,ii a4] [.cells 0 [.mp 1,ii x0.ff,.ow 2 0 2 (List.length x0.fh),.ow 3 0 13 (List.length x0.fa),.ow 4 0 22 (List.length x0.fu)],.mapI x0.fj,.own 0 2 (List.map Qe x0.fh),.own 0 13 (List.map Qh x0.fa),.own 0 22 (List.map Qk x0.fu),.cells 0 [ii a3.fM,.ow 6 0 1 (List.length a3.fAt),.undef,.undef,.undef,.undef,.undef,.undef,.undef,.undef,.undef,.undef,.undef,.undef,.undef,.undef,.undef,.undef,.undef,.undef,.undef,.undef],.own 0 1 (List.map eI a3.fAt)] [0,16] (VI () (x0,x85) o):=
 Zi.partial_correctness x0 x85 (fun a3 a4 o=>LOp [.ptr 0 0 0,.mp 1] 93 21 108 [0,16,84,85,86] [.ptr 0 0 0,.ptr 5 0 0,.ow 2 0 2 (List.length x0.fh),ii x85,ii a4] [.cells 0 [.mp 1,ii x0.ff,.ow 2 0 2 (List.length x0.fh),.ow 3 0 13 (List.length x0.fa),.ow 4 0 22 (List.length x0.fu)],.mapI x0.fj,.own 0 2 (List.map Qe x0.fh),.own 0 13 (List.map Qh x0.fa),.own 0 22 (List.map Qk x0.fu),.cells 0 [ii a3.fM,.ow 6 0 1 (List.length a3.fAt),.undef,.undef,.undef,.undef,.undef,.undef,.undef,.undef,.undef,.undef,.undef,.undef,.undef,.undef,.undef,.undef,.undef,.undef,.undef,.undef],.own 0 1 (List.map eI a3.fAt)] [0,16] (VI () (x0,x85) o))
 (fun Zi Qf2 a3 a4 o h=>
 have i0 a b:=Ll.mk (Qf2 a b);Lp4p (hs:=[(87,.split),(88,.s),(89,.e Qe),(95,.z [{slot:=91,own:=1}] (some (.n eI 95 (some .a))))]) (kb:=[kk 0,{slot:=0,path:=[0]},{slot:=0,path:=[2],own:=2},{slot:=0,path:=[3],own:=13},{slot:=0,path:=[4],own:=22},kk 16,{slot:=16,path:=[1],own:=1}]) (kbx:=[kk 0,{slot:=0,path:=[0]},{slot:=0,path:=[2],own:=2},{slot:=0,path:=[3],own:=13},{slot:=0,path:=[4],own:=22},kk 16,{slot:=16,path:=[1],own:=1}]) rfl h (q:=qD (hA:=qG (hA:=qOx (hA:=fun v0=>qA a3.fAt (hA:=qO (mA (sh:=eI) a3.fAt v0.fp) (nA a3.fAt v0.fp))))))) a3 a4 o h
abbrev ZZ(s:List Int)(u:(Q1×Int))(o:(List Unit) ⊕ Int):List Alt:=[⟨fun(x:List Unit)=>(Sum.inl x:(List Unit) ⊕ Int)=o,.exit 0,fun x=>[.ptr 0 0 0,.sl 1 (List.map eI s),.undef,.ptr 5 0 0,.sl 20 (List.map eO20 x)],fun x=>[.cells 0 [.mp 1,ii u.1.ff,.ow 2 0 2 (List.length u.1.fh),.ow 3 0 13 (List.length u.1.fa),.ow 4 0 22 (List.length u.1.fu)],.mapI u.1.fj,.own 0 2 (List.map Qe u.1.fh),.own 0 13 (List.map Qh u.1.fa),.own 0 22 (List.map Qk u.1.fu),.cells 0 (eO20 ()).cells]⟩,⟨fun(x:Int)=>(Sum.inr x:(List Unit) ⊕ Int)=o,.ret,fun x=>[.ptr 0 0 0,.sl 1 (List.map eI s),ii x,.ptr 5 0 0,.undef],fun x=>[.cells 0 [.mp 1,ii u.1.ff,.ow 2 0 2 (List.length u.1.fh),.ow 3 0 13 (List.length u.1.fa),.ow 4 0 22 (List.length u.1.fu)],.mapI u.1.fj,.own 0 2 (List.map Qe u.1.fh),.own 0 13 (List.map Qh u.1.fa),.own 0 22 (List.map Qk u.1.fu),.cells 0 (eO20 ()).cells]⟩]
def Zn(x0:Q1)(x9:List Unit)(a4:Int)(a3:Int):Option ((List Unit) ⊕ Int):=
 if a3<a4 then
 if 0≤a3∧a3< (↑x0.fa.length:Int) then
 Option.map Qc.f x0.fa[a3.toNat]? >>=fun v0=>
 some ((Zq.mk (4:Int) [] (0:Int) (0:Int) (0:Int) [] v0 []:Qf))>>=fun v1=>
 KU v1 x0.fh>>=fun v2=>
 if v2.snd !=0 then
 some (.inr v2.snd)
 else
 if(x9.length+(1:Nat))*(256:Nat)≤(140737488355328:Nat)∧x9.length+(1:Nat)≤(9223372036854775807:Nat) then
 some (x9++[()])>>=fun v3=>
 Zn x0 v3 a4 (wr (a3+1))
 else none
 else none
 else
 some (.inl x9)
 partial_fixpoint
theorem D7(x0:Q1)(x2:List Int)(x9:List Unit)(a5:Int)(a6:Int)(o:(List Unit) ⊕ Int)(h:Zn x0 x9 a5 a6=some o):LOp [.ptr 0 0 0,.mp 1] 93 6 108 [0,2,7,9,34,35,36] [.ptr 0 0 0,.sl 1 (List.map eI x2),.ptr 5 0 0,.ow 6 0 20 (List.length x9),.ow 3 0 13 (List.length x0.fa),ii a5,ii a6] [.cells 0 [.mp 1,ii x0.ff,.ow 2 0 2 (List.length x0.fh),.ow 3 0 13 (List.length x0.fa),.ow 4 0 22 (List.length x0.fu)],.mapI x0.fj,.own 0 2 (List.map Qe x0.fh),.own 0 13 (List.map Qh x0.fa),.own 0 22 (List.map Qk x0.fu),.cells 0 (eO20 ()).cells,.own 0 20 (List.map eO20 x9)] [0,2,6,7,9] (ZZ x2 (x0,a5) o):=
 Zn.partial_correctness x0 a5 (fun x9 a6 o=>∀(x2:List Int),LOp [.ptr 0 0 0,.mp 1] 93 6 108 [0,2,7,9,34,35,36] [.ptr 0 0 0,.sl 1 (List.map eI x2),.ptr 5 0 0,.ow 6 0 20 (List.length x9),.ow 3 0 13 (List.length x0.fa),ii a5,ii a6] [.cells 0 [.mp 1,ii x0.ff,.ow 2 0 2 (List.length x0.fh),.ow 3 0 13 (List.length x0.fa),.ow 4 0 22 (List.length x0.fu)],.mapI x0.fj,.own 0 2 (List.map Qe x0.fh),.own 0 13 (List.map Qh x0.fa),.own 0 22 (List.map Qk x0.fu),.cells 0 (eO20 ()).cells,.own 0 20 (List.map eO20 x9)] [0,2,6,7,9] (ZZ x2 (x0,a5) o))
 (fun Zn Qf3 x9 a6 o h x2=>
 Lp4p (hs:=[(37,.split),(38,.s),(39,.e Q8),(42,.n Qt 42 none),(47,.c Na),(51,.split),(56,.z [{slot:=53,own:=20}] (some (.n eO20 56 (some .a)))),(7600008,.z [kk 6,kk 10] none)]) (kb:=[kk 0,{slot:=0,path:=[0]},{slot:=0,path:=[2],own:=2},{slot:=0,path:=[3],own:=13},{slot:=0,path:=[4],own:=22},kk 7,{slot:=9,own:=20}]) (kbx:=[kk 0,{slot:=0,path:=[0]},{slot:=0,path:=[2],own:=2},{slot:=0,path:=[3],own:=13},{slot:=0,path:=[4],own:=22},kk 7,{slot:=9,fz:=true}]) rfl h (q:=qD (hA:=qG (hA:=qOxR (hA:=fun v0=>⟨fun _=>KM (kW (sh:=Qt) (Zq.mk (4:Int) [] (0:Int) (0:Int) (0:Int) [] v0 []:Qf) (LeV.agg (.cons lr (.cons lr (.cons lr (.cons lr (.cons lr (.cons (LeV.nil 4) (.cons lr (.cons lr (.cons lr (.cons lr (.cons lr (.cons lr (.cons lr (.cons lr (.cons lr (.cons lr (.cons lr (.cons lr (.cons lr (.cons (LeV.nil 20) .nil))))))))))))))))))))) fun v1=>(kT (nM (sh:=Qe) x0.fh) (kC (sh:=Na) (Uz v1 x0.fh) fun v2=>(kIf (c:=v2.snd !=0) (kT (nM (sh:=eO20) x9) (kX (alts:=ZZ x2 (x0,a5)) (.inr v2.snd) (.next (.here _ rfl (.cons lr (.cons lr (.cons lr (.cons lr (.cons (LeV.undef (AV.sl (20:Nat) (List.map eO20 x9))) .nil))))) (.refl _)))))
 (kA (q:=(x9.length+(1:Nat))*(256:Nat)≤(140737488355328:Nat)∧x9.length+(1:Nat)≤(9223372036854775807:Nat)) (sh:=eO20) (l:=x9) (kO (sh:=eO20) (x9++[()]) (mA (sh:=eO20) x9 ()) (nA x9 ()) fun v3=>(kM0 (alts:=ZZ x2 (x0,a5)) (fun y hy=>Qf3 v3 (wr (a6+1)) y hy x2))))))))
 (kW (sh:=Qt) (Zq.mk (4:Int) [] (0:Int) (0:Int) (0:Int) [] v0 []:Qf) (LeV.agg (.cons lr (.cons lr (.cons lr (.cons lr (.cons lr (.cons (LeV.nil 4) (.cons lr (.cons lr (.cons lr (.cons lr (.cons lr (.cons lr (.cons lr (.cons lr (.cons lr (.cons lr (.cons lr (.cons lr (.cons lr (.cons (LeV.nil 20) .nil))))))))))))))))))))) fun v1=>(kT (nM (sh:=Qe) x0.fh) (kC (sh:=Na) (Uz v1 x0.fh) fun v2=>(kIf (c:=v2.snd !=0) (kT (nM (sh:=eO20) x9) (kX (alts:=ZZ x2 (x0,a5)) (.inr v2.snd) (.next (.here _ rfl (.cons lr (.cons lr (.cons lr (.cons lr (.cons (LeV.undef (AV.sl (20:Nat) (List.map eO20 x9))) .nil))))) (.refl _)))))
 (kA (q:=(x9.length+(1:Nat))*(256:Nat)≤(140737488355328:Nat)∧x9.length+(1:Nat)≤(9223372036854775807:Nat)) (sh:=eO20) (l:=x9) (kO (sh:=eO20) (x9++[()]) (mA (sh:=eO20) x9 ()) (nA x9 ()) fun v3=>(kM0 (alts:=ZZ x2 (x0,a5)) (fun y hy=>Qf3 v3 (wr (a6+1)) y hy x2))))))))⟩))) (hB:=qT (nM (sh:=eO20) x9)))) x9 a6 o h x2
def Ze(r:(Int×Q1)):AV:=eI r.1
def Zd(r:(Int×Q1)):List Box:=[.cells 0 [.mp 1,ii r.2.ff,.ow 2 0 2 (List.length r.2.fh),.ow 3 0 13 (List.length r.2.fa),.ow 4 0 22 (List.length r.2.fu)],.mapI r.2.fj,.own 0 2 (List.map Qe r.2.fh),.own 0 13 (List.map Qh r.2.fa),.own 0 22 (List.map Qk r.2.fu)]
def Yo(x0:Q1)(x1:Qf)(x2:List Int):Option (Int×Q1):=
 KU x1 x0.fh>>=fun v0=>
 if v0.snd !=0 then
 some (v0.snd,x0)
 else
 some (x0,(↑x0.fa.length:Int))>>=fun v1=>
 Zn x0 [] (↑x0.fa.length:Int) 0>>=fun v2=>(match v2 with
 | (.inl v3)=>
 KK v3>>=fun v4=>
 some v1.fst>>=fun v6=>
 VN v4 v1.fst x2>>=fun v8=>
 some ((↑v6.fu.length:Int):Int)>>=fun v9=>
 if 2048≤v9 then
 some ((2:Int),v6)
 else
 Df x2>>=fun a8=>
 some (v6,(↑v6.fh.length:Int))>>=fun a3=>
 Zi v6 (QE.mk ((VX a8 v6.fj).getD (0:Int)) []) (↑v6.fh.length:Int) (0:Int)>>=fun a6=>
 if(a3.fst.fu.length+(1:Nat))*(288:Nat)≤(140737488355328:Nat)∧a3.fst.fu.length+(1:Nat)≤(9223372036854775807:Nat) then
 some ((0:Int),(Q1.mk a3.fst.fj a3.fst.ff a3.fst.fh a3.fst.fa (a3.fst.fu++[(QE.mk a6.fM a6.fAt)])))
 else none
 | (.inr v14)=>
 some (v14,v1.fst))
theorem IF(x0 x1 x2 r)(h:Yo x0 x1 x2=some r):PH 93 [.ptr 0 0 0,Qt x1,eLI x2] [.cells 0 [.mp 1,ii x0.ff,.ow 2 0 2 (List.length x0.fh),.ow 3 0 13 (List.length x0.fa),.ow 4 0 22 (List.length x0.fu)],.mapI x0.fj,.own 0 2 (List.map Qe x0.fh),.own 0 13 (List.map Qh x0.fa),.own 0 22 (List.map Qk x0.fu)] (Ze r) (Zd r):=
 PuH4 (hs:=[(25,.c Na),(29,.split),(70,.n eI 70 none),(71,.split),(77,.c eS),(105,.a),(59,.c hgBk),(7600001,.z [kk 5,kk 9] none),(7500025,.z [{slot:=16,path:=[1],fz:=true}] none),(3000022,.l [] [0,16,84,85,86] [kk 0,{slot:=0,path:=[0]},{slot:=0,path:=[2],own:=2},{slot:=0,path:=[3],own:=13},{slot:=0,path:=[4],own:=22},kk 16,{slot:=16,path:=[1],own:=1}] [0,16] [kk 0,{slot:=0,path:=[0]},{slot:=0,path:=[2],own:=2},{slot:=0,path:=[3],own:=13},{slot:=0,path:=[4],own:=22},kk 16,{slot:=16,path:=[1],own:=1}] (VI ())),(3000007,.l [] [0,2,7,9,34,35,36] [kk 0,{slot:=0,path:=[0]},{slot:=0,path:=[2],own:=2},{slot:=0,path:=[3],own:=13},{slot:=0,path:=[4],own:=22},kk 7,{slot:=9,own:=20}] [0,2,6,7,9] [kk 0,{slot:=0,path:=[0]},{slot:=0,path:=[2],own:=2},{slot:=0,path:=[3],own:=13},{slot:=0,path:=[4],own:=22},kk 7,{slot:=9,fz:=true}] (ZZ x2)),(4000015,.l [] [0,2,7] [kk 0,{slot:=0,path:=[0]},{slot:=0,path:=[2],own:=2},{slot:=0,path:=[3],own:=13},{slot:=0,path:=[4],own:=22},kk 7] [] [] (Kt x2))]) (kb:=[kk 1,{slot:=1,path:=[0]},{slot:=1,path:=[2],own:=2},{slot:=1,path:=[3],own:=13},{slot:=1,path:=[4],own:=22}]) (Yo.eq_1 x0 x1 x2) h (q:=⟨fun _=>KM (kT (nM (sh:=Qe) x0.fh) (kC (sh:=Na) (Uz x1 x0.fh) fun v0=>(kIf (c:=v0.snd !=0) (kEH (enc:=Ze) (bt:=Zd) (v0.snd,x0) ⟨.refl _,.refl _⟩)
 (kL2 (x0,(↑x0.fa.length:Int)) (hL:=(D7 x0 x2 [] (↑x0.fa.length:Int) 0)) (hA:=fun v1 v3=>(kC (sh:=hgBk) (D6 v3) fun v4=>(kR1 v1.fst (Gt v4 v1.fst x2) fun v6 v8=>(kN (↑v6.fu.length:Int) rfl fun v9=>(kIfD (p:=2048≤v9) (kEH (enc:=Ze) (bt:=Zd) ((2:Int),v6) ⟨.refl _,.refl _⟩)
 (kC (sh:=eS) (Hg x2) fun a7=>(kL1 (v6,(↑v6.fh.length:Int)) (Gs v6 (QE.mk ((VX a7 v6.fj).getD (0:Int)) []) (↑v6.fh.length:Int) (0:Int)) fun a3 a4=>(kT (nM (sh:=eI) a4.fAt) (kA (q:=(a3.fst.fu.length+(1:Nat))*(288:Nat)≤(140737488355328:Nat)∧a3.fst.fu.length+(1:Nat)≤(9223372036854775807:Nat)) (sh:=Qk) (l:=a3.fst.fu) (kEH (enc:=Ze) (bt:=Zd) ((0:Int),(Q1.mk a3.fst.fj a3.fst.ff a3.fst.fh a3.fst.fa (a3.fst.fu++[(QE.mk a4.fM a4.fAt)]))) (leEnd (.cons lr .nil) (.cons (LeB.cells (0:Nat) (.cons lr (.cons lr (.cons lr (.cons lr (.cons (LeV.owl (by simp:a3.fst.fu.length+(1:Nat)=List.length (a3.fst.fu++[(QE.mk a4.fM a4.fAt)]))) .nil)))))) (.cons (LeB.refl (Box.mapI a3.fst.fj)) (.cons (LeB.refl (Box.own (0:Nat) (2:Nat) (List.map Qe a3.fst.fh))) (.cons (LeB.refl (Box.own (0:Nat) (13:Nat) (List.map Qh a3.fst.fa))) (.cons (LeB.ownEq (mA (sh:=Qk) a3.fst.fu (QE.mk a4.fM a4.fAt))) .nil))))))))))))))))
 (hB:=fun v1 a8=>(kEH (enc:=Ze) (bt:=Zd) (a8,v1.fst) ⟨.refl _,.refl _⟩))))))
 (kT (nM (sh:=Qe) x0.fh) (kC (sh:=Na) (Uz x1 x0.fh) fun v0=>(kIf (c:=v0.snd !=0) (kEH (enc:=Ze) (bt:=Zd) (v0.snd,x0) ⟨.refl _,.refl _⟩)
 (kL2 (x0,(↑x0.fa.length:Int)) (hL:=(D7 x0 x2 [] (↑x0.fa.length:Int) 0)) (hA:=fun v1 v3=>(kC (sh:=hgBk) (D6 v3) fun v4=>(kR1 v1.fst (Gt v4 v1.fst x2) fun v6 v8=>(kN (↑v6.fu.length:Int) rfl fun v9=>(kIfD (p:=2048≤v9) (kEH (enc:=Ze) (bt:=Zd) ((2:Int),v6) ⟨.refl _,.refl _⟩)
 (kC (sh:=eS) (Hg x2) fun a7=>(kL1 (v6,(↑v6.fh.length:Int)) (Gs v6 (QE.mk ((VX a7 v6.fj).getD (0:Int)) []) (↑v6.fh.length:Int) (0:Int)) fun a3 a4=>(kT (nM (sh:=eI) a4.fAt) (kA (q:=(a3.fst.fu.length+(1:Nat))*(288:Nat)≤(140737488355328:Nat)∧a3.fst.fu.length+(1:Nat)≤(9223372036854775807:Nat)) (sh:=Qk) (l:=a3.fst.fu) (kEH (enc:=Ze) (bt:=Zd) ((0:Int),(Q1.mk a3.fst.fj a3.fst.ff a3.fst.fh a3.fst.fa (a3.fst.fu++[(QE.mk a4.fM a4.fAt)]))) (leEnd (.cons lr .nil) (.cons (LeB.cells (0:Nat) (.cons lr (.cons lr (.cons lr (.cons lr (.cons (LeV.owl (by simp:a3.fst.fu.length+(1:Nat)=List.length (a3.fst.fu++[(QE.mk a4.fM a4.fAt)]))) .nil)))))) (.cons (LeB.refl (Box.mapI a3.fst.fj)) (.cons (LeB.refl (Box.own (0:Nat) (2:Nat) (List.map Qe a3.fst.fh))) (.cons (LeB.refl (Box.own (0:Nat) (13:Nat) (List.map Qh a3.fst.fa))) (.cons (LeB.ownEq (mA (sh:=Qk) a3.fst.fu (QE.mk a4.fM a4.fAt))) .nil))))))))))))))))
 (hB:=fun v1 a8=>(kEH (enc:=Ze) (bt:=Zd) (a8,v1.fst) ⟨.refl _,.refl _⟩))))))⟩)
end Go.Proofs.YtkgphhemcglgnaaGreatDoor
namespace HY
open Go Go.RowKit
section
variable {m : Nat → Lc} {H : HV} {B : Nat → Prop} {H0 : HV} {gl : Nat → AV} {hp : Nat → Option Box} {nx : Nat} {w W : World} {id ver sz : Nat} {xs ys : List AV}
theorem T8(a4:hp id=some (.own ver sz xs)):Q6 (updF hp id (some (.own ver sz ys))) m=Q6 hp m:=by
 have hx:∀i,i≠id→updF hp id (some (.own ver sz ys)) i=hp i:=fun i hi=>Qz _ _ hi
 unfold Q6;congr 1<;>funext i
 ·funext v;by_cases hi:i=id;·subst hi;rw[Qn,a4];simp[Box.ver?]
  ·rw[hx i hi]
 ·funext v;by_cases hi:i=id;·subst hi;rw[Qn,a4];rfl
  ·rw[hx i hi]
 ·by_cases hi:i=id;·subst hi;rw[Qn,a4]
  ·rw[hx i hi]
structure PutOk (H:HV) (w W:World) (l:Lc) (ys:List AV):Prop where
 os:W.os=w.os
 tape:W.tape=w.tape
 out:W.output=w.output
 size:w.heap.size≤W.heap.size
 oth:∀k,k<w.heap.size→k≠l.g→W.heap[k]? =w.heap[k]?
 row:∀C e,w.heap[l.g]? =some (.cells C e (0,0))→∃C',W.heap[l.g]? =some (.cells C' e (0,0))∧C'.size=C.size∧l.base+(ys.flatMap AV.cells).length≤C.size∧
  ∀j c,(ys.flatMap AV.cells)[j]? =some c→∃v,C'[l.base+j]? =some v∧v.oneCell'=true∧RelI H c v
theorem Q3n(hh:RelH m H B H0 gl hp nx w)(a5:hp id=some (.own ver sz xs))(hn:id<nx)(a3:0< (m id).size)(ah:∀y∈ys,y.cells.length=sz)(hp':PutOk H w W (m id) ys):
  Qa B w W∧RelH m H B H0 gl (updF hp id (some (.own ver sz ys))) nx W:=by
 obtain⟨hb,ad,a6⟩:=hh.sepR id _ a5 a3;obtain⟨ag,_,hc⟩:=hh.box id _ a5;obtain⟨C,e,h1,h2,h3,h4⟩:=(hc.resolve_left fun h=>by omega).2
 obtain⟨C',g1,g2,g3,g4⟩:=hp'.row C e h1;have hE:=T8 (m:=m) (ys:=ys) a5;have a4:=hp'.oth;have a7:∀(k:Nat) (C:Array Value) (e:TypeId) (fr:Nat×Nat),w.heap[k]? =some (Obj.cells C e fr)→∃(C':Array Value) (a9:Nat×Nat),W.heap[k]? =some (Obj.cells C' e a9)∧C'.size=C.size:=fun k C2 e2 fr hk=>by
  have ab:k<w.heap.size:=by
   rcases Nat.lt_or_ge k w.heap.size with h | h
   ·exact h
   ·rw[Array.getElem?_eq_none h] at hk;cases hk
  by_cases hkg:k=(m id).g
  ·subst hkg;rw[h1] at hk;cases hk;exact⟨_,_,g1,g2⟩
  ·rw[a4 k ab hkg];exact⟨_,_,hk,rfl⟩
 refine⟨⟨hp'.os,hp'.tape,hp'.out,hp'.size,fun k hk=>a4 k (hh.low k hk) fun e=>hb (e▸hk),a7⟩,?_⟩
 have:=hh.oneR (id:=id) (nx':=nx) (b:=.own ver sz ys) (l:=m id) (w':=W) (fun k hk hr=>a4 k hk (hr a3)) hp'.size (by rw[Vg,hE];exact .refl _) (fun _=>⟨hb,Nat.lt_of_lt_of_le ad hp'.size,a6⟩)
  (fun ai b' ae aa hr _ e=>ae (hh.injR ai id b' _ aa a5 hr a3 e)) hn (Nat.le_refl _) ⟨ag,ah,.inr ⟨a3,C',e,g1,by rw[g2];exact h2,by rw[g2];exact g3,g4⟩⟩ (fun ver cs e=>by cases e)
 rw[Vg] at this;exact this
end
end HY
namespace Go.Proofs
open Go.Shelf
def Tryz.lays190_ren:Go.Shelf.Ren:=⟨fun | 190=>184 | 125=>218 | 258=>217 | 128=>267 | 129=>268 | 302=>258 | 303=>259 | 304=>260 | 305=>261 | 306=>262 | 307=>263 | 308=>264 | 309=>265 | 310=>266 | 333=>322 | 329=>323 | 330=>324 | 334=>325 | 335=>326 | 336=>327 | 344=>371 | n=>n,fun | 31=>85 | 9=>9 | 3=>3 | 46=>253 | 0=>0 | 51=>292 | 53=>254 | 4=>4 | 183=>285 | 182=>284 | 131=>183 | 5=>5 | 218=>331 | 222=>335 | 228=>366 | 229=>367 | n=>n,fun | n=>n⟩
theorem Tryz.lays190:Go.Proofs.Lays.n190 Tryz.prog Tryz.lays190_ren:= {
 mixed:=by kernel_rfl
 f125:=Tryz.func218.trans (congrArg some (by kernel_rfl))
 f128:=Tryz.func267.trans (congrArg some (by kernel_rfl))
 f129:=Tryz.func268.trans (congrArg some (by kernel_rfl))
 f190:=Tryz.func184.trans (congrArg some (by kernel_rfl))
 f258:=Tryz.func217.trans (congrArg some (by kernel_rfl))
 f302:=Tryz.func258.trans (congrArg some (by kernel_rfl))
 f303:=Tryz.func259.trans (congrArg some (by kernel_rfl))
 f304:=Tryz.func260.trans (congrArg some (by kernel_rfl))
 f305:=Tryz.func261.trans (congrArg some (by kernel_rfl))
 f306:=Tryz.func262.trans (congrArg some (by kernel_rfl))
 f307:=Tryz.func263.trans (congrArg some (by kernel_rfl))
 f308:=Tryz.func264.trans (congrArg some (by kernel_rfl))
 f309:=Tryz.func265.trans (congrArg some (by kernel_rfl))
 f310:=Tryz.func266.trans (congrArg some (by kernel_rfl))
 f329:=Tryz.func323.trans (congrArg some (by kernel_rfl))
 f330:=Tryz.func324.trans (congrArg some (by kernel_rfl))
 f333:=Tryz.func322.trans (congrArg some (by kernel_rfl))
 f334:=Tryz.func325.trans (congrArg some (by kernel_rfl))
 f335:=Tryz.func326.trans (congrArg some (by kernel_rfl))
 f336:=Tryz.func327.trans (congrArg some (by kernel_rfl))
 f344:=Tryz.func371.trans (congrArg some (by kernel_rfl))
 t0:=Tryz.underlying0
 a0:=Tryz.isAgg0
 z0:=Tryz.sizeOf0
 v0:=Tryz.zeroValue0
 t3:=Tryz.underlying3
 a3:=Tryz.isAgg3
 z3:=Tryz.sizeOf3
 v3:=Tryz.zeroValue3
 t4:=Tryz.underlying4
 a4:=Tryz.isAgg4
 z4:=Tryz.sizeOf4
 v4:=Tryz.zeroValue4
 t5:=Tryz.underlying5
 a5:=Tryz.isAgg5
 z5:=Tryz.sizeOf5
 v5:=Tryz.zeroValue5
 t9:=Tryz.underlying9
 a9:=Tryz.isAgg9
 z9:=Tryz.sizeOf9
 v9:=Tryz.zeroValue9
 t31:=Tryz.underlying85
 a31:=Tryz.isAgg85
 z31:=Tryz.sizeOf85
 v31:=Tryz.zeroValue85
 t46:=Tryz.underlying253
 a46:=Tryz.isAgg253
 z46:=Tryz.sizeOf253
 v46:=Tryz.zeroValue253
 t51:=Tryz.underlying292
 a51:=Tryz.isAgg292
 z51:=Tryz.sizeOf292
 v51:=Tryz.zeroValue292
 t53:=Tryz.underlying254
 a53:=Tryz.isAgg254
 z53:=Tryz.sizeOf254
 v53:=Tryz.zeroValue254
 t131:=Tryz.underlying183
 a131:=Tryz.isAgg183
 z131:=Tryz.sizeOf183
 v131:=Tryz.zeroValue183
 t182:=Tryz.underlying284
 a182:=Tryz.isAgg284
 z182:=Tryz.sizeOf284
 v182:=Tryz.zeroValue284
 t183:=Tryz.underlying285
 a183:=Tryz.isAgg285
 z183:=Tryz.sizeOf285
 v183:=Tryz.zeroValue285
 t218:=Tryz.underlying331
 a218:=Tryz.isAgg331
 z218:=Tryz.sizeOf331
 v218:=Tryz.zeroValue331
 t222:=Tryz.underlying335
 a222:=Tryz.isAgg335
 z222:=Tryz.sizeOf335
 v222:=Tryz.zeroValue335
 t228:=Tryz.underlying366
 a228:=Tryz.isAgg366
 z228:=Tryz.sizeOf366
 v228:=Tryz.zeroValue366
 t229:=Tryz.underlying367
 a229:=Tryz.isAgg367
 z229:=Tryz.sizeOf367
 v229:=Tryz.zeroValue367}
open Go.Sort Go.RowKit in
theorem Tryz.slices_Sort_string(a3 off cap:Nat)(ss:List (List UInt8))(w:World)(hH:Holds encStr w a3 off ss.toArray)(a4:a3<w.heap.size)(a6:ss.length<4611686018427387904):
  Calls Tryz.prog 184 #[.slice (some ⟨a3,off,none⟩) ss.length cap] w fun e w'=>
   e= .returned (.tuple #[])∧∃n os,w'=grow (putRow encStr (Sort.ahead w n) a3 off (ss.mergeSort fun x y=>decide (x≤y)).toArray) os:=Any.slices_Sort_string Tryz.lays190 a3 off cap ss w hH a4 a6
def Tryz.lays194_ren:Go.Shelf.Ren:=⟨fun | 194=>185 | n=>n,fun | 31=>85 | 9=>9 | 3=>3 | 4=>4 | 0=>0 | n=>n,fun | n=>n⟩
theorem Tryz.lays194:Go.Proofs.Lays.n194 Tryz.prog Tryz.lays194_ren:= {
 mixed:=by kernel_rfl
 f194:=Tryz.func185.trans (congrArg some (by kernel_rfl))
 t0:=Tryz.underlying0
 a0:=Tryz.isAgg0
 z0:=Tryz.sizeOf0
 v0:=Tryz.zeroValue0
 t3:=Tryz.underlying3
 a3:=Tryz.isAgg3
 z3:=Tryz.sizeOf3
 v3:=Tryz.zeroValue3
 t4:=Tryz.underlying4
 a4:=Tryz.isAgg4
 z4:=Tryz.sizeOf4
 v4:=Tryz.zeroValue4
 t9:=Tryz.underlying9
 a9:=Tryz.isAgg9
 z9:=Tryz.sizeOf9
 v9:=Tryz.zeroValue9
 t31:=Tryz.underlying85
 a31:=Tryz.isAgg85
 z31:=Tryz.sizeOf85
 v31:=Tryz.zeroValue85}
open Go.RowKit Go.Lib Go.Sort in
theorem Tryz.slices_Compact_string(a3 off cap:Nat)(zs:List (List UInt8))(w:World)(hH:Holds encStr w a3 off zs.toArray)(a5:zs.length≤9223372036854775807)(a4:zs.length≤cap):
  Calls Tryz.prog 185 #[.slice (some ⟨a3,off,none⟩) zs.length cap] w fun e w'=>e= .returned (.slice (some ⟨a3,off,none⟩) (Lib.compact zs).length cap)∧∃q,w'=putRow encStr (Sort.ahead w q) a3 off (Lib.compact zs++List.replicate (zs.length - (Lib.compact zs).length) []).toArray:=Any.slices_Compact_string Tryz.lays194 a3 off cap zs w hH a5 a4
open Go.RowKit Go.Lib Go.Sort in
theorem Tryz.slices_Compact_string_empty(a:Option Addr)(cap:Nat)(w:World):
  Calls Tryz.prog 185 #[.slice a 0 cap] w fun e w'=>e= .returned (.slice a 0 cap)∧w'=w:=Any.slices_Compact_string_empty Tryz.lays194 a cap w
open Go.RowKit Go.Sort in
theorem Tryz.slices_Sort_string_none(p:Option Addr)(cap:Nat)(w:World):
  Calls Tryz.prog 184 #[.slice p 0 cap] w fun e w'=>e= .returned (.tuple #[])∧w'=w:=Any.slices_Sort_string_none Tryz.lays190 p cap w
end Go.Proofs
namespace Go.Proofs.YtkgphhemcglgnaaGreatDoor
open Go HY Go.RowKit Go.Sort Go.Proofs
def srt(l:List Str):List Str:=l.mergeSort fun x y=>decide (x≤y)
def cpt(l:List Str):List Str:=Lib.compact l
theorem Tx(l:List Str):(srt l).length=l.length:=List.length_mergeSort ..
theorem Q36(l:List Str):(cpt l).length≤l.length:=by
 unfold cpt Lib.compact Lib.compactUpTo;rw[List.length_map];exact Nat.le_trans (List.length_filter_le _ _) (by simp)
theorem OY(l:List Str):(l.map eS).flatMap AV.cells=l.map eS:=by
 induction l with
 |nil=>rfl
 |cons a l ih=>rw[List.map_cons,List.flatMap_cons,ih];rfl
section
variable {m : Nat → Lc} {H : HV} {B : Nat → Prop} {H0 : HV} {gl : Nat → AV} {hp : Nat → Option Box} {nx : Nat} {w : World} {id ver : Nat} {l l' : List Str}
theorem holdsS(hh:RelH m H B H0 gl hp nx w)(a3:hp id=some (.own ver 1 (l.map eS)))(a5:0< (m id).size):Holds encStr w (m id).g (m id).base l.toArray:=by
 obtain⟨_,_,hc⟩:=hh.box id _ a3;obtain⟨C,e,h1,h2,h3,h4⟩:=(hc.resolve_left fun h=>by omega).2
 intro j hj;simp only[List.size_toArray] at hj;obtain⟨u,g1,g2,g3⟩:=h4 j (eS l[j]) (by rw[OY,cqs,cqc hj];rfl)
 have:u= .string ⟨(l[j]).toArray⟩:=by cases g3;rfl
 subst this;rw[getElem!_pos l.toArray j (by simpa using hj)]
 simp[World.cell?,World.frozen?,h1,g1]
theorem putS(hh:RelH m H B H0 gl hp nx w)(a4:hp id=some (.own ver 1 (l.map eS)))(a8:0< (m id).size){z:List Str}(hz:l'.length≤z.length)(ak:z.length=l.length)(ae:∀j (hj:j<l'.length),z[j]? =some l'[j])(n:Nat)(os:Array Obj):
  PutOk H w (grow (putRow encStr (Sort.ahead w n) (m id).g (m id).base z.toArray) os) (m id) (l'.map eS):=by
 obtain⟨hb,aa,ad⟩:=hh.sepR id _ a4 a8;have a3:∀k,k<w.heap.size→(grow (putRow encStr (Sort.ahead w n) (m id).g (m id).base z.toArray) os).heap[k]? =if(m id).g=k then(w.heap[k]?).map (onCells (putCells encStr (m id).base z.toArray)) else w.heap[k]? :=fun k hk=>by
  simp only[grow,putRow,mapBlock,ahead];rw[Array.getElem?_append_left (by simpa using hk),Array.getElem?_modify]
  rfl
 refine⟨rfl,rfl,rfl,by simp[grow,putRow,mapBlock,ahead],fun k hk ab=>by rw[a3 k hk,if_neg (Ne.symm ab)],fun C e h1=> ?_⟩
 obtain⟨_,_,hc⟩:=hh.box id _ a4;obtain⟨C',e',q1,q2,h3,h4⟩:=(hc.resolve_left fun h=>by omega).2
 rw[h1] at q1;cases q1;rw[OY,List.length_map] at h3;refine⟨putCells encStr (m id).base z.toArray C,by rw[a3 _ aa,if_pos rfl,h1];rfl,by simp[putCells],by rw[OY,List.length_map];omega,fun j c hj=> ?_⟩
 rw[OY] at hj;have a6:j<l'.length:=by have:=(cqd.1 hj).1;simpa using this
 rw[cqs,cqc a6] at hj;cases hj;refine⟨.string ⟨(l'[j]).toArray⟩,?_,rfl,.str _⟩;simp only[putCells,Array.getElem?_mapIdx];rw[cqh (by omega)]
 simp only[Option.map_some];rw[if_pos (by simp;omega),Nat.add_sub_cancel_left]
 have a9:=ae j a6;have a7:j<z.length:=by omega
 rw[getElem!_pos z.toArray j (by simpa using a7)]
 rw[cqc a7] at a9;simp only[List.getElem_toArray];rw[Option.some.inj a9]
end
noncomputable def wfR:WF:=fun f hs args hp nx K=>match Nat.beq f 184 with
 |true=>match args with
  | [.ow id ver 1 len]=>∃l:List Str,(lkb hp id=some (.own ver 1 (l.map eS))∧len=l.length∧l.length<4611686018427387904)∧K (.tup []) (pt hp id (.own ver 1 ((srt l).map eS))) nx
  |_=>False
 |false=>match Nat.beq f 185 with
  |true=>match args with
   | [.ow id ver 1 len]=>∃l:List Str,(lkb hp id=some (.own ver 1 (l.map eS))∧len=l.length∧l.length<4611686018427387904)∧K (.ow id ver 1 (List.length (cpt l))) (pt hp id (.own ver 1 ((cpt l).map eS))) nx
   |_=>False
  |false=>wf0 f hs args hp nx K
theorem Ts{vs:Array Value}(h:1=vs.size):∃v,vs= #[v]:=by
 rcases vs with⟨_ | ⟨a,_ | ⟨b,r⟩⟩⟩<;>simp at h
 exact⟨a,rfl⟩
theorem wfR_ok:WF.Ok Tryz.prog gls wfR:=fun f hs args hp nx K h=>by
 unfold wfR at h;split at h
 ·rename_i hf;split at h
  ·rename_i id ver len;obtain⟨l,⟨h1,h2,h3⟩,hK⟩:=h;have ae:f=184:=cqa hf;subst ae;intro m H B H0 rest w vs hh hl a6 a7;obtain⟨v0,rfl⟩:=Ts hl;obtain⟨oa,cap,rfl,_,ak,_,_,a5⟩:=(a6 0 _ v0 rfl rfl).ow_inv;have hn:id<nx:=by
    rcases Nat.lt_or_ge id nx with h | h
    ·exact h
    ·rw[hh.fresh id h] at h1;cases h1
   have aa:NF Tryz.prog 184:=Ve (by kernel_rfl)
   have a5:=a5 (m id) (Je h1 rfl);have a9:∀(w':World) (e:Ending),e= .returned (.tuple #[])→(Qa B w w'∧RelH m H B H0 gls (updF (lkb hp) id (some (.own ver 1 ((srt l).map eS)))) nx w')→∃v m' H' r hp' nx',K r hp' nx'∧e= .returned v∧Qa B w w'∧RelH m' H' B H0 gls (lkb hp') nx' w'∧RV H' (Q6 (lkb hp') m') r v∧∀p∈rest,RV H' (Q6 (lkb hp') m') p.1 p.2:=fun w' e he ⟨hb,hr⟩=>by
    refine⟨_,m,H,_,_,_,hK,he,hb,by rw[QV];exact hr,.imm _ _ (.tup _ _ rfl (fun j c v hj=>by simp at hj)),fun p ag=> ?_⟩
    rw[QV,T8 h1];exact a7 p ag
   rcases a5 with⟨hz,hc⟩ | ⟨a3,ha,b1⟩
   ·have af:l=[]:=by
     cases l with
     |nil=>rfl
     |cons _ _=>simp at h2;omega
    subst af;simp at h2;subst h2;refine .inl ⟨aa,(Tryz.slices_Sort_string_none oa cap w).mono fun e w' ⟨he,hw⟩=> ?_⟩
    subst hw;refine a9 _ _ he ⟨.refl _ _,?_⟩;have:updF (lkb hp) id (some (.own ver 1 ((srt []).map eS)))=lkb hp:=by
     funext k;by_cases hk:k=id;·subst hk;rw[Qn,h1];simp[srt]
     ·rw[Qz _ _ hk]
    rw[this];exact hh
   ·subst ha;subst h2;have hH:=holdsS hh h1 a3;have ax:=(hh.sepR id _ h1 a3).2.1;refine .inl ⟨aa,(Tryz.slices_Sort_string (m id).g (m id).base cap l w hH ax h3).mono fun e w' ⟨he,n,os,hw⟩=> ?_⟩
    subst hw;exact a9 _ _ he (Q3n hh h1 hn a3 (fun y hy=>by obtain⟨s,_,rfl⟩:=List.mem_map.1 hy;rfl) (putS (l':=srt l) hh h1 a3 (Nat.le_refl _) (Tx l) (fun j hj=>cqc hj) n os))
  ·cases h
 ·split at h
  ·rename_i hf;split at h
   ·rename_i id ver len;obtain⟨l,⟨h1,h2,h3⟩,hK⟩:=h;have ae:f=185:=cqa hf;subst ae;intro m H B H0 rest w vs hh hl a6 a7;obtain⟨v0,rfl⟩:=Ts hl;obtain⟨oa,cap,rfl,ap,ak,ar,az,ab⟩:=(a6 0 _ v0 rfl rfl).ow_inv;have hn:id<nx:=by
     rcases Nat.lt_or_ge id nx with h | h
     ·exact h
     ·rw[hh.fresh id h] at h1;cases h1
    have aa:NF Tryz.prog 185:=Ve (by kernel_rfl)
    have a5:=ab (m id) (Je h1 rfl);have aq:=Q36 l;have a9:∀(w':World) (e:Ending),e= .returned (.slice oa (List.length (cpt l)) cap)→(Qa B w w'∧RelH m H B H0 gls (updF (lkb hp) id (some (.own ver 1 ((cpt l).map eS)))) nx w')→∃v m' H' r hp' nx',K r hp' nx'∧e= .returned v∧Qa B w w'∧RelH m' H' B H0 gls (lkb hp') nx' w'∧RV H' (Q6 (lkb hp') m') r v∧∀p∈rest,RV H' (Q6 (lkb hp') m') p.1 p.2:=fun w' e he ⟨hb,hr⟩=>by
     refine⟨_,m,H,_,_,_,hK,he,hb,by rw[QV];exact hr,?_,fun p ag=> ?_⟩
     ·rw[QV,T8 h1];exact .ow _ _ _ _ _ _ ap (by omega) ar az ab
     ·rw[QV,T8 h1];exact a7 p ag
    rcases a5 with⟨hz,hc⟩ | ⟨a3,ha,b1⟩
    ·have af:l=[]:=by
      cases l with
      |nil=>rfl
      |cons _ _=>simp at h2;omega
     subst af;simp at h2;subst h2;refine .inl ⟨aa,(Tryz.slices_Compact_string_empty oa cap w).mono fun e w' ⟨he,hw⟩=> ?_⟩
     subst hw;refine a9 _ _ he ⟨.refl _ _,?_⟩;have:updF (lkb hp) id (some (.own ver 1 ((cpt []).map eS)))=lkb hp:=by
      funext k;by_cases hk:k=id;·subst hk;rw[Qn,h1];rfl
      ·rw[Qz _ _ hk]
     rw[this];exact hh
    ·subst ha;subst h2;have hH:=holdsS hh h1 a3;refine .inl ⟨aa,(Tryz.slices_Compact_string (m id).g (m id).base cap l w hH (by omega) ak).mono fun e w' ⟨he,q,hw⟩=> ?_⟩
     subst hw;have b3:(Lib.compact l++List.replicate (l.length - (Lib.compact l).length) []).length=l.length:=by
      have:(Lib.compact l).length≤l.length:=aq;simp;omega
     have hp:=putS (l':=cpt l) (z:=Lib.compact l++List.replicate (l.length - (Lib.compact l).length) []) hh h1 a3 (by simp[cpt]) b3 (fun j hj=>by
      have aj:j< (Lib.compact l).length:=hj;rw[List.getElem?_append_left aj];exact cqc aj) q #[]
     rw[grow_empty] at hp;exact a9 _ _ he (Q3n hh h1 hn a3 (fun y hy=>by obtain⟨s,_,rfl⟩:=List.mem_map.1 hy;rfl) hp)
   ·cases h
  ·exact Vp f hs args hp nx K h
set_option maxRecDepth 1000000
noncomputable def lcR:Code:=match GK 8 (rng Tryz.prog 101 4).2.2 with | some c=>c | none=>.skip
noncomputable def WRR(hs:QH)(ks:List Nat)(kb:List KB)(kx:List Nat)(kbx:List KB)(alts:List Alt)(vs:List AV)(bs:List Box):Prop:=
 Fp Tryz.prog gls ch0 wf0 hs [.ptr 0 0 0] 2000 36 lcR ks kb kx kbx alts vs bs (Nxt Tryz.prog gls [.ptr 0 0 0] 36 lcR ks kx alts)
abbrev LR(vs:List AV)(bs:List Box)(alts:List Alt):Prop:=Zu Tryz.prog gls [.ptr 0 0 0] 36 lcR [3,19,20,21] vs bs [3] alts
theorem LpR{φ:Prop}{hs:QH}{kb:List KB}{kbx:List KB}{alts:List Alt}{vs:List AV}{bs:List Box}(h:φ)(a3:QN lcR=true:=by kernel_rfl)(e:φ=WRR hs [3,19,20,21] kb [3] kbx alts vs bs:=by kernel_rfl):LR vs bs alts:=
 Zu.step V5 Vp WX a3 (show WRR hs [3,19,20,21] kb [3] kbx alts vs bs from e▸h)
def T5(s:Unit)(u:List Q5×Int×Int)(o:List Str):List Alt:=[⟨fun(x:List Str)=>x=o,.exit 2,fun x=>[.ptr 0 0 0],fun x=>[.cells 0 [.ow 1 0 1 (List.length x)],.own 0 1 (List.map eS x)]⟩]
def A_rd(s:Unit)(u:Unit)(o:List Str):List Alt:=[⟨fun(x:List Str)=>x=o,.normal,fun x=>[.ptr 0 0 0],fun x=>[.cells 0 [.ow 1 0 1 (List.length x)],.own 0 1 (List.map eS x)]⟩]
def YA(l:List Q5):List Str:=(l.filter fun i=> !(i.fF==[])).map Q5.fF
def Gj(e:Q3):List Str:=(if e.fOp=3 then [e.fc] else [])++YA e.fg
def rdN(x:Q3):List Str:=(ZY (.mk x)).flatMap fun e=>Gj e.f
def NxL(a3:List Q5)(o:List Str)(n i:Int)(l:List Str):Prop:=
 Nxt Tryz.prog gls [.ptr 0 0 0] 36 lcR [3,19,20,21] [3] (T5 () (a3,n,i) o) [.ptr 0 0 0,.sl 4 (a3.map Q4),.int .i64 n,.int .i64 i] [.cells 0 [.ow 1 0 1 (List.length l)],.own 0 1 (List.map eS l)]
theorem P_rdL(a3:List Q5)(hn:a3.length≤1099511627776):∀(t p:List Q5) (out:List Str) (u:List Q5×Int×Int),a3=p++t→out.length+t.length≤1099511627776→
    LR [.ptr 0 0 0,.sl 4 (a3.map Q4),.int .i64 (List.length a3:Int),.int .i64 (List.length p:Int)] [.cells 0 [.ow 1 0 1 (List.length out)],.own 0 1 (List.map eS out)] (T5 () u (out++YA t))
  |t,p,out,u,hi,ho=>by
    have nx:∀(x:Q5) (t':List Q5) (l:List Str),t=x::t'→l++YA t'=out++YA t→l.length+t'.length≤1099511627776→∀k m,k=List.length l→m=List.map eS l→
        Nxt Tryz.prog gls [.ptr 0 0 0] 36 lcR [3,19,20,21] [3] (T5 () u (out++YA t)) [.ptr 0 0 0,.sl 4 (a3.map Q4),.int .i64 (List.length a3:Int),.int .i64 (wr ((List.length p:Int)+1))] [.cells 0 [.ow 1 0 1 k],.own 0 1 m]:=fun x t' l ht hl hb k m hk hm=>by
      subst hk;subst hm;have a9:p.length<a3.length:=by rw[hi,ht];simp
      have:=P_rdL a3 hn t' (p++[x]) l u (by rw[hi,ht];simp) hb
      rw[hl] at this;rw[show wr ((List.length p:Int)+1)=((List.length (p++[x]):Nat):Int) by rw[ZB (by omega)];simp]
      exact⟨_,_,.refl _,.refl _,this⟩
    exact LpR (φ:=(decide ((List.length p:Int)< (List.length a3:Int))=true→∃x:Q5,((0:Int)≤(List.length p:Int)∧(a3.map Q4)[Int.toNat (List.length p:Int)]? =some (Q4 x))∧
        (((!x.fF==[])=true→(List.length out=List.length (List.map eS out)∧(List.length out+1)*16≤140737488355328∧List.length out+1≤9223372036854775807)∧
          ∃l:List Str,(List.map eS l=List.map eS out++[AV.str x.fF]∧List.length l=List.length out+1)∧NxL a3 (out++YA t) (List.length a3:Int) (wr ((List.length p:Int)+1)) l)∧
         ((!x.fF==[])=false→NxL a3 (out++YA t) (List.length a3:Int) (wr ((List.length p:Int)+1)) out)))∧
        (decide ((List.length p:Int)< (List.length a3:Int))=false→Out (T5 () u (out++YA t)) (.exit 2) [.ptr 0 0 0] [.cells 0 [.ow 1 0 1 (List.length out)],.own 0 1 (List.map eS out)]))
      (hs:=[(22,.split),(23,.e Q4),(27,.split),(32,.z [{slot:=28,own:=1}] (some (.n eS 32 (some .a))))]) (kb:=[{slot:=3},{slot:=3,path:=[0],own:=1}]) (kbx:=[{slot:=3},{slot:=3,path:=[0],own:=1}])
      ⟨fun h=>by
        have h:=of_decide_eq_true h;cases t with
        |nil=>rw[hi] at h;simp at h
        |cons x t'=>
          simp only[List.length_cons] at ho;refine⟨x,⟨by omega,?_⟩,fun hx=>⟨⟨by simp,by omega,by omega⟩,out++[x.fF],⟨by simp[eS],by simp⟩,nx x t' _ rfl ?_ (by simp;omega) _ _ rfl rfl⟩,fun hx=>nx x t' out rfl ?_ (by omega) _ _ rfl rfl⟩
          · rw[cqs,hi,cqm,cqq (Nat.le_refl _)];simp
          · rw[show YA (x::t')=x.fF::YA t' by unfold YA;rw[List.filter_cons,if_pos hx];rfl];simp
          · rw[show YA (x::t')=YA t' by unfold YA;rw[List.filter_cons,if_neg (by rw[hx];simp)]],
      fun h=>by
        have h:=of_decide_eq_false h;cases t with
        |cons x t'=>rw[hi] at h;simp at h;omega
        |nil=>exact .here _ (by simp[YA]) (.refl _) (.refl _)⟩
 termination_by t=>t.length
 decreasing_by subst ht;simp
def NxG(o:List Str)(t:List Qc)(l:List Str):Prop:=
 NxtR Tryz.prog gls [] 36 (rng Tryz.prog 101 (3+1)).1 (rng Tryz.prog 101 (3+1)).2.1 (rng Tryz.prog 101 (3+1)).2.2 [3] [.ptr 0 0 0] (A_rd () () o) (t.map fun y=>[Q8 y.f]) [.cells 0 [.ow 1 0 1 (List.length l)],.own 0 1 (List.map eS l)]
def TL(e:Qc)(t:List Qc)(o l:List Str):Prop:=
 ∃n:Int,n=(List.length (List.map Q4 e.f.fg):Int)∧∃(u:List Q5×Int×Int) (o1:List Str),
  LR [.ptr 0 0 0,.sl 4 (List.map Q4 e.f.fg),.int .i64 n,.int .i64 (0:Int)] [.cells 0 [.ow 1 0 1 (List.length l)],.own 0 1 (List.map eS l)] (T5 () u o1)∧∀x:List Str,x=o1→LeVs [.ptr 0 0 0] [.ptr 0 0 0]∧NxG o t x
theorem P_rd:∀(l:List Qc) (out:List Str),(∀e∈l,e.f.fg.length≤1099511627776)→out.length+((l.map fun e=>e.f.fg.length+1).sum)≤1099511627776→
    RG 101 3 36 [3] [.ptr 0 0 0] (A_rd () () (out++l.flatMap fun e=>Gj e.f)) (l.map fun y=>[Q8 y.f]) [.cells 0 [.ow 1 0 1 (List.length out)],.own 0 1 (List.map eS out)]
  | [],out,_,_=>Rg0 rfl (.here _ (by simp) (.refl _) (.refl _))
  |e::t,out,hi,ho=>by
    have a4:∀l:List Q5,(YA l).length≤l.length:=fun l=>by unfold YA;rw[List.length_map];exact List.length_filter_le _ _
    simp only[List.map_cons,List.sum_cons] at ho;have a5:=hi e (by simp)
    have a9:=a4 e.f.fg;have tl:∀l:List Str,l++YA e.f.fg=out++Gj e.f→l.length≤out.length+1→TL e t (out++(e::t).flatMap fun e=>Gj e.f) l:=fun l hl aa=>by
      have a7:(l++YA e.f.fg).length≤out.length+1+e.f.fg.length:=by rw[List.length_append];omega
      refine⟨_,rfl,(e.f.fg,0,0),l++YA e.f.fg,by rw[List.length_map];exact P_rdL e.f.fg a5 e.f.fg [] l _ rfl (by omega),fun x hx=>⟨.refl _,?_⟩⟩
      subst hx;have:=P_rd t (l++YA e.f.fg) (fun a ha=>hi a (by simp[ha])) (by omega)
      rw[hl,List.append_assoc] at this;refine⟨_,.refl _,?_⟩;rw[List.flatMap_cons,← hl] at*;exact this
    have n1:e.f.fOp=3→(out++[e.f.fc])++YA e.f.fg=out++Gj e.f:=fun h=>by simp[Gj,h]
    have n0:¬e.f.fOp=3→out++YA e.f.fg=out++Gj e.f:=fun h=>by simp[Gj,h]
    exact Rg1 (φ:=((e.f.fOp==(3:Int))=true→(List.length out=List.length (List.map eS out)∧(List.length out+1)*16≤140737488355328∧List.length out+1≤9223372036854775807)∧
          ∃l:List Str,(List.map eS l=List.map eS out++[AV.str e.f.fc]∧List.length l=List.length out+1)∧TL e t (out++(e::t).flatMap fun e=>Gj e.f) l)∧
        ((e.f.fOp==(3:Int))=false→TL e t (out++(e::t).flatMap fun e=>Gj e.f) out))
      (hs:=[(12,.split),(17,.z [{slot:=13,own:=1}] (some (.n eS 17 (some .a)))),(20,.n eI 20 none),(3000008,.l [] [3,19,20,21] [{slot:=3},{slot:=3,path:=[0],own:=1}] [3] [{slot:=3},{slot:=3,path:=[0],own:=1}] (T5 ()))]) (kb:=[{slot:=3},{slot:=3,path:=[0],own:=1}]) (kbx:=[]) (by kernel_rfl) (by kernel_rfl)
      ⟨fun hc=>⟨⟨by simp,by omega,by omega⟩,out++[e.f.fc],⟨by simp[eS],by simp⟩,tl _ (n1 (by simpa using hc)) (by simp)⟩,fun hc=>tl _ (n0 (by simpa using hc)) (by omega)⟩
def D9(r:List Str):AV:=.ow 0 0 1 (List.length r)
def D4(r:List Str):List Box:=[.own 0 1 (List.map eS r)]
theorem Oj(l:List Str)(hl:l.length<4611686018427387904):PH 142 [.ow 0 0 1 (List.length l)] [.own 0 1 (List.map eS l)] (D9 (cpt (srt l))) (D4 (cpt (srt l))):=
 PuH.of (ch0:=ch0) (wf:=wfR) (gd:=gds) (fl:=2000) (hs:=[(4,.i []),(6,.i [])]) (kb:=[{slot:=0,own:=1}]) V5 wfR_ok Jg
  ((fun(φ:Prop) (e:φ=Q16 Tryz.prog gls ch0 wfR gds 2000 142 [(4,.i []),(6,.i [])] [{slot:=0,own:=1}] [.ow 0 0 1 (List.length l)] [.own 0 1 (List.map eS l)] (D9 (cpt (srt l))) (D4 (cpt (srt l)))) (hφ:φ)=>e▸hφ)
   (∃l1:List Str,(some (Box.own 0 1 (List.map eS l))=some (Box.own 0 1 (List.map eS l1))∧List.length l=List.length l1∧List.length l1<4611686018427387904)∧
    ∃l2:List Str,(some (Box.own 0 1 (List.map eS (srt l1)))=some (Box.own 0 1 (List.map eS l2))∧List.length l=List.length l2∧List.length l2<4611686018427387904)∧
     LeVs [AV.ow 0 0 1 (List.length (cpt l2))] [D9 (cpt (srt l))]∧LeBs [Box.own 0 1 (List.map eS (cpt l2))] (D4 (cpt (srt l)))) (by kernel_rfl)
   ⟨l,⟨rfl,rfl,hl⟩,srt l,⟨rfl,(Tx l).symm,by rw[Tx];exact hl⟩,.refl _,.refl _⟩)
structure rdOk (x:Q3):Prop where
 w:aE (.mk x)
 i:∀e∈ZY (.mk x),e.f.fg.length≤1099511627776
 s:((ZY (.mk x)).map fun e=>e.f.fg.length+1).sum≤1099511627776
theorem Q3q(x:Q3)(h:rdOk x):(rdN x).length≤1099511627776:=by
 have key:∀l:List Qc,(l.flatMap fun e=>Gj e.f).length≤(l.map fun e=>e.f.fg.length+1).sum:=by
  intro l
  induction l with
  |nil=>simp
  |cons e l ih=>
   rw[List.flatMap_cons,List.length_append,List.map_cons,List.sum_cons];have h1:(YA e.f.fg).length≤e.f.fg.length:=by unfold YA;rw[List.length_map];exact List.length_filter_le _ _
   have h2:(Gj e.f).length≤1+e.f.fg.length:=by unfold Gj;rw[List.length_append];split<;>simp<;>omega
   omega
 exact Nat.le_trans (key _) h.s
open Classical in
noncomputable def DS(x0:Q3):Option (List Str):=if h:rdOk x0 then some (cpt (srt (rdN x0))) else none
theorem Bj(x0:Q3)(r:List Str)(h:DS x0=some r):PU 101 [Q8 x0] (eLS r):=by
 unfold DS at h;split at h
 ·rename_i hk;cases h;have hw:Js x0=some ⟨x0,hk.w⟩:=by unfold Js;rw[dif_pos hk.w]
  have a4:=P_rd (ZY (.mk x0)) [] hk.i (by simpa using hk.s)
  rw[List.nil_append] at a4;have a6:=Q3q x0 hk;exact Pu1 (φ:=∃x:AO,PU 98 [Q8 x0] (M3 x)∧∃xs,∃(u:Unit) (o:List Str),ItOk Tryz.prog gls 139 [.ip 13 [Q8 x.1] 0 0] xs∧RG 101 3 36 [3] [.ptr 0 0 0] (A_rd () u o) xs [.cells 0 [.ow 1 0 1 0],.own 0 1 []]∧
    ∀x:List Str,x=o→∃x2:List Str,PH 142 [.ow 0 0 1 (List.length x)] [.own 0 1 (List.map eS x)] (D9 x2) (D4 x2)∧List.length x2=List.length (List.map eS x2)∧LeT (.sl 1 (List.map eS x2)) (.sl 1 (List.map eS (cpt (srt (rdN x0))))))
   (hs:=[(8,.c M3),(4000004,.l [] [3] [{slot:=3},{slot:=3,path:=[0],own:=1}] [3] [{slot:=3},{slot:=3,path:=[0],own:=1}] (A_rd ())),(35,.h [{slot:=0,own:=1}] D9 D4)]) (by kernel_rfl)
   ⟨_,MM _ _ hw,_,(),rdN x0,T7 _,a4,fun x hx=>by
    subst hx;exact⟨cpt (srt (rdN x0)),Oj _ (by omega),by simp,.refl _⟩⟩
 ·cases h
end Go.Proofs.YtkgphhemcglgnaaGreatDoor
noncomputable section
namespace Go.Proofs.YtkgphhemcglgnaaGreatDoor
open Go HY
set_option maxRecDepth 1000000
abbrev Kg(s:((List Q0)× (List Str)))(u:Int)(o:Unit ⊕ Int):List Alt:=[⟨fun(x:Unit)=>(Sum.inl x:Unit ⊕ Int)=o,.exit 0,fun x=>[.undef],fun x=>[]⟩,⟨fun(x:Int)=>(Sum.inr x:Unit ⊕ Int)=o,.ret,fun x=>[ii x],fun x=>[]⟩]
mutual
def YS(x0:List Q0)(x1:List Str):Option Bool:=
 XT x0 x1>>=fun v0=>
 some v0
 partial_fixpoint
def XT(x0:List Q0)(x1:List Str):Option Bool:=
 Yx x0 x1>>=fun v0=>
 some (decide (0≤v0))
 partial_fixpoint
def Yx(x0:List Q0)(x1:List Str):Option Int:=
 some (List.length x0:Int)>>=fun v0=>
 some v0>>=fun v1=>
 QS x0 x1 v0 0>>=fun v2=>(match v2 with
 | (.inl v3)=>
 some (-1:Int)
 | (.inr v4)=>
 some v4)
 partial_fixpoint
def QS(x0:List Q0)(x1:List Str)(x7:Int)(x8:Int):Option (Unit ⊕ Int):=
 if x8<x7 then
 Option.map Q0.f (ix x0 x8)>>=fun v0=>
 Jd v0 x1>>=fun v1=>if v1 then
 some (.inr x8)
 else
 QS x0 x1 x7 (wr (x8+1))
 else
 some (.inl ())
 partial_fixpoint
def Jd(x0:Qf)(x1:List Str):Option Bool:=
 Ue x0>>=fun v0=>if v0 then
 ZS x1 x0.fc>>=fun v1=>if v1 then
 some true
 else
 YS x0.fd x1>>=fun v2=>
 some v2
 else
 YS x0.fd x1>>=fun v3=>
 some v3
 partial_fixpoint
end
theorem SA(x1:List Str):(∀(x0:List Q0) (r:Bool),YS x0 x1=some r→PU 131 [Z7 x0,eLS x1] (eB r))∧(∀(x0:List Q0) (r:Bool),XT x0 x1=some r→PU 174 [Z7 x0,.fn 175 [.ip 1 [.agg [.sl 1 (List.map eS x1)]] 0 0]] (eB r))∧(∀(x0:List Q0) (r:Int),Yx x0 x1=some r→PU 209 [Z7 x0,.fn 175 [.ip 1 [.agg [.sl 1 (List.map eS x1)]] 0 0]] (eI r))∧(∀(x0:List Q0) (x7:Int) (x8:Int) (o:Unit ⊕ Int),QS x0 x1 x7 x8=some o→LO 209 2 19 [0,1,7,8] [.sl 20 (List.map Q9 x0),.fn 175 [.ip 1 [.agg [.sl 1 (List.map eS x1)]] 0 0],ii x7,ii x8] [] [4] (Kg (x0,x1) x7 o))∧(∀(x0:Qf) (r:Bool),Jd x0 x1=some r→PU 175 [Qt x0,.ip 1 [.agg [.sl 1 (List.map eS x1)]] 0 0] (eB r)):=
 YS.mutual_partial_correctness x1 _ _ _ _ _
 (fun XT Qed x0 r h=>
 have i0 a:=Lw.mk (Qed a);Pu4 (hs:=[(6,.z [{slot:=3,fz:=true}] none),(7,.c eB)]) rfl h)
 (fun Yx Qel x0 r h=>
 have i0 a:=Lw.mk (Qel a);Pu4 (hs:=[(7,.c eI)]) rfl h)
 (fun QS Qem x0 r h=>
 have i0 a b c:=Ll.mk (Qem a b c);Pu4 (hs:=[(7,.n eI 7 none),(3000003,.l [] [0,1,7,8] [] [4] [] (Kg (x0,x1)))]) rfl h)
 (fun QS Jd Qem Qev x0 x7 x8 o h=>
 have i0 a b c:=Ll.mk (Qem a b c);have i1 a:=Lw.mk (Qev a);Lp4 (hs:=[(9,.split),(14,.e Qt),(16,.cb)]) (kb:=[]) (kbx:=[]) rfl h)
 (fun YS Qeu x0 r h=>
 have i0 a:=Lw.mk (Qeu a);Pu4 (hs:=[(5,.cb),(10,.cb),(16,.c eB)]) rfl h)
theorem AD(x0 x1 r)(h:YS x0 x1=some r):PU 131 [Z7 x0,eLS x1] (eB r):=(SA x1).1 x0 r h
end Go.Proofs.YtkgphhemcglgnaaGreatDoor
namespace HY
open Go Go.RowKit
def nrd:Yb:=fun _ _ _ _=>none
theorem nrd_ok{P:Program}{gl:Nat→AV}:nrd.Ok P gl:=fun _ _ _ _ _ _ _ h=>by cases h
def Fk(P:Program)(gl:Nat→AV)(ch0:Qq)(wf:WF)(hs:QH)(pins:Option (List AV))(fl:Nat):List Code→St→(Exit→St→Prop)→Prop
 | [],s,K=>K .normal s
 |c::cs,s,K=>match QF c with
  |true=>False
  |false=>YT P gl ch0 wf hs pins fl c s (fun e s'=>match JW e with
   |true=>Fk P gl ch0 wf hs pins fl cs s' K
   |false=>K e s')
def Q14(P:Program)(gl:Nat→AV)(ch0:Qq)(wf:WF)(gd:Nat→Bool)(fl g:Nat)(hs:QH)(a3:List AV)(hp:Tr Box)(nx:Nat)(K:Tr Box→Nat→Prop):Prop:=
 match gd g with
 |true=>match P.funcs[g]? with
  |some fn=>match fn.body with
   |some c=>match Nat.ble a3.length fn.ntmps&& !QF c with
    |true=>YT P gl ch0 wf hs none fl c ⟨fn.ntmps,Kw 0 a3,hp,nx⟩ (fun e s=>match WA e with
     |true=>match LL P s fn.results.toList with
      |some _=>K s.hp s.nx
      |none=>False
     |false=>False)
    |false=>False
   |none=>False
  |none=>False
 |false=>False
def wpart(pins a3:List AV)(ks:List Nat)(kb:List KB)(st:St)(K:List AV→List AV→List Box→Prop):Prop:=
 match nodN (V3 st kb)&&pins.all (Ba (lkb st.hp) (V3 st kb)) with
 |true=>match EB (lkb st.hp) (V3 st kb) (V3 st kb) with
  |some bs=>K (a3.map (ren (lkb st.hp) (V3 st kb) 12)) (ks.map fun k=>ren (lkb st.hp) (V3 st kb) 12 (st.get k)) bs
  |none=>False
 |false=>False
def wfunD(P:Program)(gl:Nat→AV)(ch0:Qq)(wf:WF)(gd:Nat→Bool)(ps:List AV)(fl f:Nat)(hs hd:QH)(ks:List Nat)(kb:List KB)(args:List AV)(hp:Tr Box)(nx:Nat)(K:AV→St→Prop):Prop:=
 match gd f with
 |true=>match P.funcs[f]? with
  |some fn=>match fn.body with
   |some c=>match Nat.ble args.length fn.ntmps with
    |true=>match Iu P gl ch0 nrd fl c ⟨fn.ntmps,Kw 0 args,hp,nx⟩ with
     |some (s1,g,a3,r)=>KG kb s1 (fun s1=>wpart ps a3 ks kb s1 (fun a3 vs bs=>Fk P gl ch0 wf hs (some (a3++ps)) fl r (ZX s1.n ks vs bs) (fun e s=>match WA e with
      |true=>Q14 P gl ch0 wf gd fl g hd a3 s.hp s.nx (fun a4 a5=>match LL P (s.setHp a4 a5) fn.results.toList with
       |some r=>K r (s.setHp a4 a5)
       |none=>False)
      |false=>False)))
     |none=>False
    |false=>False
   |none=>False
  |none=>False
 |false=>False
section
variable {P : Program} {gl : Nat → AV} {ch0 : Qq} {wf : WF} {hs : QH} {gd : Nat → Bool} {fl : Nat} {B : Nat → Prop} {H0 : HV} {rest : List (AV × Value)}
theorem O7(h0:ch0.Ok P gl)(a8:WF.Ok P gl wf)(a3:P.follows .mixedOrders=true){ps:List AV}:∀(l:List Code) (s:St) (K:Exit→St→Prop),(∀x∈l,QN x=true)→Fk P gl ch0 wf hs (some ps) fl l s K→
  ∀(m:Nat→Lc) (H:HV) (a:Act) (w:World),rest.map (·.1)=ps→RelS m H B H0 gl rest s a.tmps w→M9 (FW none) 0 P (fun e a' w'=>∃s' m' H',K e s'∧a'.defers=a.defers∧Qa B w w'∧RelS m' H' B H0 gl rest s' a'.tmps w') l a w
 | [],s,K,_,hk,m,H,a,w,_,hr=>⟨s,m,H,hk,rfl,Qa.refl _ _,hr⟩
 |c::cs,s,K,hok,hk,m,H,a,w,hp,hr=>by
  simp only[Fk] at hk;split at hk;·cases hk
  ·rename_i aa;refine wpIn_mono (MG h0 a8 a3 (hok c (by simp)) hk none 0 (fun _=>rfl) B H0 rest m H a w (fun ai e=>by cases e;exact hp) hr) fun e a' w' hq=> ?_
   obtain⟨s',m',H',B',H0',D,hK,hf,ab⟩:=hq;have hD:=hf.non aa;subst hD;have a7:RelS m' H' B H0 gl rest s' a'.tmps w':=ab.down hf.sub (fun b o hb=>hf.old b o hb) (hr.heap.gv.to hf.bel fun _ _ hb=>hb)
   have hd:a'.defers=a.defers:=hf.dfr;cases e with
   |normal=>
    simp only[JW] at hK;exact Ma cs _ _ (O7 h0 a8 a3 cs s' K (fun x hx=>hok x (by simp[hx])) hK m' H' a' w' hp a7) fun e a2 w2 ⟨s2,m2,H2,q1,q2,q3,q4⟩=>⟨s2,m2,H2,q1,q2.trans hd,hf.bel.trans q3,q4⟩
   |_=>exact⟨s',m',H',hK,hd,hf.bel,a7⟩
theorem Qab{pins a4:List AV}{us:Array Value}{ks:List Nat}{kb:List KB}{st:St}{K:List AV→List AV→List Box→Prop}{m:Nat→Lc}{H:HV}{tmps:Array Value}{w:World}(h:RelS m H B H0 gl (a4.zip us.toList++rest) st tmps w)(hl:a4.length=us.size)(hp:rest.map (·.1)=pins)(hw:wpart pins a4 ks kb st K):
  ∃a3 vs bs m',K a3 vs bs∧a3.length=us.size∧RelS m' H B H0 gl (a3.zip us.toList++rest) (ZX st.n ks vs bs) tmps w:=by
 unfold wpart at hw;split at hw
 ·rename_i hc;rw[cqb] at hc;split at hw
  ·rename_i bs a8;obtain⟨h1,a5⟩:=h.heap.sub hc.1 a8 h.heap.old h.heap.low (fun j id b _ hb hr=>(h.heap.sepR id b hb hr).1) h.heap.gv
   refine⟨_,_,bs,_,hw,by simpa using hl,h1,h.size,fun k=> ?_,fun p hp'=> ?_⟩
   ·show RV H _ (lk .undef (slOf ks (ks.map fun k=>ren (lkb st.hp) (V3 st kb) 12 (st.get k))) k) _
    rcases Ac ks (fun k=>ren (lkb st.hp) (V3 st kb) 12 (st.get k)) k with e | e
    ·rw[e];exact .imm _ _ (.undef _)
    ·rw[e];exact a5 12 _ _ (h.slot k)
   ·rcases cqu.1 hp' with hp' | hp'
    ·obtain⟨j,hj⟩:=List.getElem?_of_mem hp';rw[List.getElem?_zip_eq_some,cqs,Option.map_eq_some_iff] at hj;obtain⟨⟨x,hx,e⟩,hu⟩:=hj;rw[← e];exact a5 12 x p.2 (h.rest (x,p.2) (List.mem_append_left _ (cqr (i:=j) (by rw[List.getElem?_zip_eq_some];exact⟨hx,hu⟩))))
    ·have a7:=cqt.1 hc.2 p.1 (by rw[← hp];exact List.mem_map_of_mem hp')
     have:=a5 12 p.1 p.2 (h.rest p (List.mem_append_right _ hp'));rw[Q3p a7] at this;exact this
  ·cases hw
 ·cases hw
theorem Q7n(h0:ch0.Ok P gl)(aq:WF.Ok P gl wf)(hp:UA P gd){g:Nat}{a6:List AV}{a8:Tr Box}{nx:Nat}{K:Tr Box→Nat→Prop}(hk:Q14 P gl ch0 wf gd fl g hs a6 a8 nx K){m:Nat→Lc}{H:HV}{w:World}{us:Array Value}
  (hh:RelH m H B H0 gl (lkb a8) nx w) (hl:a6.length=us.size) (hv:∀(j:Nat) (x:AV) (v:Value),a6[j]? =some x→us[j]? =some v→RV H (Q6 (lkb a8) m) x v) (ab:∀p∈rest,RV H (Q6 (lkb a8) m) p.1 p.2):
  (callFunc g us).run P w= .ok (.enter g us) w∧CallsDIn (FW none) 0 P g us .returning w fun e u' w'=>u'= .returning∧∃v m' H' a5 a7,K a5 a7∧e= .returned v∧Qa B w w'∧RelH m' H' B H0 gl (lkb a5) a7 w'∧∀p∈rest,RV H' (Q6 (lkb a5) m') p.1 p.2:=by
 unfold Q14 at hk;split at hk
 rotate_left
 ·cases hk
 rename_i hg;have a4:=hp.fn g hg;unfold okFn at a4;split at hk
 rotate_left
 ·cases hk
 rename_i fn hf;rw[hf] at a4;simp only[cqb,bne_iff_ne] at a4;obtain⟨a9,a4⟩:=a4;split at hk
 rotate_left
 ·cases hk
 rename_i c hb;rw[hb] at a4;simp only at a4;split at hk
 rotate_left
 ·cases hk
 rename_i hc;rw[cqb] at hc;have ak:=cqe hc.1;have am:QF c=false:=by simpa using hc.2
 refine⟨Gu hf (by simpa using a9) (by rw[hb];rfl) us w,?_⟩
 have ao:=RelS.frame (rest:=rest) hh ak hl hv ab;refine callsDIn_of_wp hf hb trivial (wpIn_mono (MG h0 aq hp.mix a4 hk none 0 (fun _=>rfl) B H0 rest m H {tmps:=us++Array.replicate (fn.ntmps - us.size) Go.undef,defers:=[]} w (fun _ e=>nomatch e) ao) fun e a' w' hq=> ?_)
 obtain⟨s',m',H',B',H0',D,hK,a3,an⟩:=hq;have hD:=a3.non am;subst hD;have aa:RelS m' H' B H0 gl rest s' a'.tmps w':=an.down a3.sub (fun b o hb=>a3.old b o hb) (hh.gv.to a3.bel fun _ _ hb=>hb)
 have hd:a'.defers=[]:=a3.dfr;split at hK
 ·rename_i ai;split at hK
  ·rename_i r af;obtain⟨v,ap,_⟩:=MD aa af;have ae:a'.defers=[]∧∃v,(results fn a'.tmps).run P w'= .ok v w'∧∃v' m' H' a5 a7,K a5 a7∧Ending.returned v= .returned v'∧Qa B w w'∧RelH m' H' B H0 gl (lkb a5) a7 w'∧∀p∈rest,RV H' (Q6 (lkb a5) m') p.1 p.2:=
    ⟨hd,v,ap,v,m',H',_,_,hK,rfl,a3.bel,aa.heap,aa.rest⟩
   cases e with
   |normal=>exact ae
   |ret=>exact ae
   |_=>cases ai
  ·cases hK
 ·cases hK
theorem Qaa(h0:ch0.Ok P gl)(ar:WF.Ok P gl wf)(hp:UA P gd){ps:List AV}{f:Nat}{hd:QH}{ks:List Nat}{kb:List KB}{args:List AV}{a8:Tr Box}{nx:Nat}{K:AV→St→Prop}(hw:wfunD P gl ch0 wf gd ps fl f hs hd ks kb args a8 nx K)
  (m:Nat→Lc) (H:HV) (B:Nat→Prop) (H0:HV) (rest:List (AV×Value)) (w:World) (vs:Array Value) (ab:rest.map (·.1)=ps) (hh:RelH m H B H0 gl (lkb a8) nx w) (hl:args.length=vs.size)
  (af:∀(j:Nat) (x:AV) (v:Value),args[j]? =some x→vs[j]? =some v→RV H (Q6 (lkb a8) m) x v) (aj:∀p∈rest,RV H (Q6 (lkb a8) m) p.1 p.2):
  Ans P f vs w fun e w'=>∃v m' H' r s tmps,K r s∧e= .returned v∧Qa B w w'∧RelS m' H' B H0 gl rest s tmps w'∧RV H' (s.env m') r v:=by
 unfold wfunD at hw;split at hw
 rotate_left
 ·cases hw
 rename_i hg;have a3:=hp.fn f hg;unfold okFn at a3;split at hw
 rotate_left
 ·cases hw
 rename_i fn hf;rw[hf] at a3;simp only[cqb,bne_iff_ne] at a3;obtain⟨ai,a3⟩:=a3;split at hw
 rotate_left
 ·cases hw
 rename_i c hb;rw[hb] at a3;simp only at a3;split at hw
 rotate_left
 ·cases hw
 rename_i ah;have ah:=cqe ah;split at hw
 rotate_left
 ·cases hw
 rename_i s1 g a7 l hx;refine .inl ⟨Gu hf (by simpa using ai) (by rw[hb];rfl),?_⟩
 have bb:=RelS.frame (rest:=rest) hh ah hl af aj;obtain⟨an,hD⟩:=H7 (B:=B) (H0:=H0) (rest:=rest) h0 nrd_ok hp.mix 0 fl c _ s1 g a7 l a3 hx;refine CallsIn.calls (F:=FW none) (callsIn_of_wp_marks hf hb trivial (hD m H {tmps:=vs++Array.replicate (fn.ntmps - vs.size) Go.undef,defers:=[]} w bb _ fun a1 w1 m1 H1 us b3 ax a9 b1 b2=> ?_)) (fun k d hd=>by simp[FW] at hd)
 have hz:∀p∈a7.zip us.toList,RV H1 (s1.env m1) p.1 p.2:=fun p hp=>by
  obtain⟨j,hj⟩:=List.getElem?_of_mem hp;rw[List.getElem?_zip_eq_some] at hj;exact b2 j _ _ hj.1 (by simpa using hj.2)
 have ao:RelS m1 H1 B H0 gl (a7.zip us.toList++rest) s1 a1.tmps w1:=⟨a9.heap,a9.size,a9.slot,fun p hp=>(cqu.1 hp).elim (hz p) (a9.rest p)⟩
 obtain⟨s2,ag,hw⟩:=Yk (gl:=gl) hw;obtain⟨m2,H2,bc⟩:=ag.2 _ _ _ _ _ _ _ ao;obtain⟨ad,bx,bo,m3,hw,aa,be⟩:=Qab bc b1 ab hw;refine Ma _ _ _ (O7 (rest:=ad.zip us.toList++rest) h0 ar hp.mix l _ _ an hw m3 H2 a1 w1 (by rw[List.map_append,ab,List.map_fst_zip (by simp[aa])]) be) fun e a' w' ⟨s,m4,H4,hK,hd,ay,a5⟩=> ?_
 split at hK
 rotate_left
 ·cases hK
 rename_i b4;have am:LeavesInM (FW none) 0 P fn a'.tmps (fun e w'=>∃v m' H' r s tmps,K r s∧e= .returned v∧Qa B w w'∧RelS m' H' B H0 gl rest s tmps w'∧RV H' (s.env m') r v) a'.defers .returning w':=by
  rw[hd,b3];obtain⟨ak,b0⟩:=Q7n (B:=B) (H0:=H0) (rest:=(List.range s.n).map (fun k=>(s.get k,a'.tmps.getD k Go.undef))++rest) h0 ar hp hK a5.heap aa (fun j x v hx hv=>by
   refine a5.rest (x,v) (List.mem_append_left _ (cqr (i:=j) ?_));rw[List.getElem?_zip_eq_some];exact⟨hx,by simpa using hv⟩) (fun p hp=>by
   rcases cqu.1 hp with hp | hp
   ·obtain⟨k,_,rfl⟩:=List.mem_map.1 hp;exact a5.slot k
   ·exact a5.rest p (List.mem_append_right _ hp))
  refine⟨by simp,.inr ⟨fun h=>by simp[FW] at h,.func g,us,g,us,rfl,?_,fun _ _=>trivial,b0.mono fun e u' w4 ⟨hu,v,m5,H5,ba,bl,ae,he,az,b7,a6⟩=> ?_⟩⟩
  ·show(callFunc g (#[]++us)).run P w'=_;rw[Array.empty_append];exact ak
  ·subst hu;subst he;have ap:RelS m5 H5 B H0 gl rest (s.setHp ba bl) a'.tmps w4:=by
    refine⟨b7,a5.size,fun k=> ?_,fun p hp=>a6 p (List.mem_append_right _ hp)⟩
    rcases Nat.lt_or_ge k s.n with b9 | b6
    ·exact a6 (s.get k,a'.tmps.getD k Go.undef) (List.mem_append_left _ (List.mem_map.2 ⟨k,List.mem_range.2 b9,rfl⟩))
    ·have hu:a'.tmps.getD k Go.undef=Go.undef:=by rw[cqj,Array.getElem?_eq_none (by rw[a5.size];exact b6)];rfl
     have:=a5.slot k;rw[hu] at this ⊢;exact T1 this
   split at ae
   ·rename_i r aq;obtain⟨v,hv,bf⟩:=MD ap aq;exact⟨v,hv,v,m5,H5,r,_,a'.tmps,ae,rfl,ax.trans (ay.trans az),ap,bf⟩
   ·cases ae
 cases e with
 |normal=>exact am
 |ret=>exact am
 |_=>cases b4
def wpureD(P:Program)(gl:Nat→AV)(ch0:Qq)(wf:WF)(gd:Nat→Bool)(fl f:Nat)(hs hd:QH)(ks:List Nat)(kd kb:List KB)(args:List AV)(bs:List Box)(r:AV)(a3:List Box):Prop:=
 wfunD P gl ch0 wf gd (KH 0 bs) fl f hs hd ks kd args (hpOf 0 bs) bs.length (endH (KH 0 bs) kb r a3)
theorem PuH.ofD(h0:ch0.Ok P gl)(a7:WF.Ok P gl wf)(hp:UA P gd){f:Nat}{hd:QH}{ks:List Nat}{kd kb:List KB}{args:List AV}{bs a6:List Box}{r:AV}(hw:wpureD P gl ch0 wf gd fl f hs hd ks kd kb args bs r a6):PuH P gl f args bs r a6:=by
 refine⟨fun m H B H0 rest w vs hh hl a4 a3 a5=> ?_⟩
 refine(Qaa h0 a7 hp hw m H B H0 rest w vs a3 hh hl a4 a5).mono fun e w' hq=> ?_
 obtain⟨v,m',H',r0,s,tmps,hK,rfl,hb,hr,a5⟩:=hq;exact Q38 a3 hK hr a5 hb
end
end HY
namespace Go.Proofs.YtkgphhemcglgnaaGreatDoor
open Go HY
set_option maxRecDepth 1000000
noncomputable def WHD(f:Nat)(hs hd:QH)(ks:List Nat)(kd kb:List KB)(args:List AV)(bs:List Box)(r:AV)(a3:List Box):Prop:=wpureD Tryz.prog gls ch0 wf0 gds 2000 f hs hd ks kd kb args bs r a3
theorem PuHD1{φ:Prop}{f:Nat}{hs hd:QH}{ks:List Nat}{kd kb:List KB}{args:List AV}{bs a3:List Box}{r:AV}(e:φ=WHD f hs hd ks kd kb args bs r a3)(h:φ):PuH Tryz.prog gls f args bs r a3:=PuH.ofD (hs:=hs) (hd:=hd) (ks:=ks) (kd:=kd) V5 Vp Jg (show WHD f hs hd ks kd kb args bs r a3 from e▸h)
end Go.Proofs.YtkgphhemcglgnaaGreatDoor
noncomputable section
namespace Go.Proofs.YtkgphhemcglgnaaGreatDoor
open Go HY
set_option maxRecDepth 1000000
def Zc(r:(Int×Q1)):AV:=eI r.1
def Z8(r:(Int×Q1)):List Box:=[.cells 0 [.mp 1,ii r.2.ff,.ow 2 0 2 (List.length r.2.fh),.ow 3 0 13 (List.length r.2.fa),.ow 4 0 22 (List.length r.2.fu)],.mapI r.2.fj,.own 0 2 (List.map Qe r.2.fh),.own 0 13 (List.map Qh r.2.fa),.own 0 22 (List.map Qk r.2.fu)]
def K0(r:(Int×Q1)):AV:=eI r.1
def YX(r:(Int×Q1)):List Box:=[.cells 0 [.mp 1,ii r.2.ff,.ow 2 0 2 (List.length r.2.fh),.ow 3 0 13 (List.length r.2.fa),.ow 4 0 22 (List.length r.2.fu)],.mapI r.2.fj,.own 0 2 (List.map Qe r.2.fh),.own 0 13 (List.map Qh r.2.fa),.own 0 22 (List.map Qk r.2.fu)]
def ZM(r:(Int×Q1)):AV:=eI r.1
def ZJ(r:(Int×Q1)):List Box:=[.cells 0 [.mp 1,ii r.2.ff,.ow 2 0 2 (List.length r.2.fh),.ow 3 0 13 (List.length r.2.fa),.ow 4 0 22 (List.length r.2.fu)],.mapI r.2.fj,.own 0 2 (List.map Qe r.2.fh),.own 0 13 (List.map Qh r.2.fa),.own 0 22 (List.map Qk r.2.fu)]
abbrev Yl(s:List Int)(u:((List Q0)×Int))(o:Q1 ⊕ (Q1×Int)):List Alt:=[⟨fun(x:Q1)=>(Sum.inl x:Q1 ⊕ (Q1×Int))=o,.exit 0,fun x=>[.ptr 0 0 0,.undef],fun x=>[.cells 0 [.mp 1,ii x.ff,.ow 2 0 2 (List.length x.fh),.ow 3 0 13 (List.length x.fa),.ow 4 0 22 (List.length x.fu)],.mapI x.fj,.own 0 2 (List.map Qe x.fh),.own 0 13 (List.map Qh x.fa),.own 0 22 (List.map Qk x.fu)]⟩,⟨fun(x:(Q1×Int))=>(Sum.inr x:Q1 ⊕ (Q1×Int))=o,.ret,fun x=>[.ptr 0 0 0,ii x.2],fun x=>[.cells 0 [.mp 1,ii x.1.ff,.ow 2 0 2 (List.length x.1.fh),.ow 3 0 13 (List.length x.1.fa),.ow 4 0 22 (List.length x.1.fu)],.mapI x.1.fj,.own 0 2 (List.map Qe x.1.fh),.own 0 13 (List.map Qh x.1.fa),.own 0 22 (List.map Qk x.1.fu)]⟩]
abbrev Xo(s:((List Int)×Qf))(u:(Int×Int))(o:Q1 ⊕ (Q1×Int)):List Alt:=[⟨fun(x:Q1)=>(Sum.inl x:Q1 ⊕ (Q1×Int))=o,.exit 0,fun x=>[.ptr 0 0 0,.ptr 5 0 0,.undef,.ptr 6 0 0],fun x=>[.cells 0 [.mp 1,ii x.ff,.ow 2 0 2 (List.length x.fh),.ow 3 0 13 (List.length x.fa),.ow 4 0 22 (List.length x.fu)],.mapI x.fj,.own 0 2 (List.map Qe x.fh),.own 0 13 (List.map Qh x.fa),.own 0 22 (List.map Qk x.fu),.cells 0 [.ptr 0 0 0],.cells 0 [ii u.1]]⟩,⟨fun(x:(Q1×Int))=>(Sum.inr x:Q1 ⊕ (Q1×Int))=o,.ret,fun x=>[.ptr 0 0 0,.ptr 5 0 0,ii x.2,.ptr 6 0 0],fun x=>[.cells 0 [.mp 1,ii x.1.ff,.ow 2 0 2 (List.length x.1.fh),.ow 3 0 13 (List.length x.1.fa),.ow 4 0 22 (List.length x.1.fu)],.mapI x.1.fj,.own 0 2 (List.map Qe x.1.fh),.own 0 13 (List.map Qh x.1.fa),.own 0 22 (List.map Qk x.1.fu),.cells 0 [.ptr 0 0 0],.cells 0 [ii u.1]]⟩]
abbrev K1(s:((List Int)× (List Q0)×Int))(u:Int)(o:(Q1×Int)):List Alt:=[⟨fun(x:(Q1×Int))=>x=o,.normal,fun x=>[.ptr 0 0 0,.sl 1 (List.map eI (s.1)),ii (x.2),.sl 20 (List.map Q9 (s.2.1)),ii (s.2.2),ii u],fun x=>[.cells 0 [.mp 1,ii (x.1).ff,.ow 2 0 2 (List.length ((x.1).fh)),.ow 3 0 13 (List.length ((x.1).fa)),.ow 4 0 22 (List.length ((x.1).fu))],.mapI ((x.1).fj),.own 0 2 (List.map Qe (x.1).fh),.own 0 13 (List.map Qh (x.1).fa),.own 0 22 (List.map Qk (x.1).fu)]⟩]
abbrev YB(s:((List Int)×Qf))(u:(Q1×Int))(o:Bool):List Alt:=jb o (fun b=>[.ptr 0 0 0,.sl 1 (List.map eI (s.1)),.ptr 5 0 0,ii (u.2),.bool b]) [.cells 0 [.mp 1,ii (u.1).ff,.ow 2 0 2 (List.length ((u.1).fh)),.ow 3 0 13 (List.length ((u.1).fa)),.ow 4 0 22 (List.length ((u.1).fu))],.mapI ((u.1).fj),.own 0 2 (List.map Qe (u.1).fh),.own 0 13 (List.map Qh (u.1).fa),.own 0 22 (List.map Qk (u.1).fu),.cells 0 (Qt (s.2)).cells]
abbrev Xx(s:Unit)(u:Q1)(o:Bool):List Alt:=jb o (fun b=>[.ptr 0 0 0,.bool b]) [.cells 0 [.mp 1,ii u.ff,.ow 2 0 2 (List.length u.fh),.ow 3 0 13 (List.length u.fa),.ow 4 0 22 (List.length u.fu)],.mapI u.fj,.own 0 2 (List.map Qe u.fh),.own 0 13 (List.map Qh u.fa),.own 0 22 (List.map Qk u.fu)]
mutual
def QR(x0:Q1)(x1:List Q0)(x2:List Int):Option (Int×Q1):=
 some (List.length x1:Int)>>=fun v0=>
 some (x1,v0)>>=fun v1=>
 X5 x0 x2 x1 v0 0>>=fun v2=>(match v2 with
 | (.inl v3)=>
 some ((0:Int),v3)
 | (.inr v4)=>
 some (v4.snd,v4.fst))
 partial_fixpoint
def X5(x0:Q1)(x2:List Int)(a5:List Q0)(a6:Int)(a3:Int):Option (Q1 ⊕ (Q1×Int)):=
 if a3<a6 then
 Option.map Q0.f (ix a5 a3)>>=fun v0=>
 Xm x2>>=fun v1=>
 if(v1.length+(1:Nat))*(8:Nat)≤(140737488355328:Nat)∧v1.length+(1:Nat)≤(9223372036854775807:Nat) then
 some (v1++[a3])>>=fun v2=>
 some a3>>=fun v3=>
 (if v0.fOp==1 then
 YZ x0 v0 v2>>=fun v5=>
 some (v5.snd,v5.fst)
 else
 if v0.fOp==4 then
 YG x0 v0 v2>>=fun v6=>
 some (v6.snd,v6.fst)
 else
 Yo x0 v0 v2>>=fun v7=>
 some (v7.snd,v7.fst))>>=fun v8=>
 if v8.snd !=0 then
 some (.inr (v8.fst,v8.snd))
 else
 X5 v8.fst x2 a5 a6 (wr (v3+1))
 else none
 else
 some (.inl x0)
 partial_fixpoint
def YG(x0:Q1)(x1:Qf)(x2:List Int):Option (Int×Q1):=
 KV x1.fo>>=fun v0=>if v0 then
 GA [] x0.fh x1.fo>>=fun v1=>
 some (x0,v1.snd)>>=fun v2=>
 (if v1.snd !=0 then
 some true
 else
 if v1.fst then
 some false
 else
 some true)>>=fun v3=>if v3 then
 some (v2.snd,v2.fst)
 else
 QR v2.fst x1.fd x2>>=fun v6=>
 some (v6.fst,v6.snd)
 else
 some ((↑x0.fu.length:Int):Int)>>=fun v7=>
 if(x0.fa.length+(1:Nat))*(160:Nat)≤(140737488355328:Nat)∧x0.fa.length+(1:Nat)≤(9223372036854775807:Nat) then
 some (x0.fa++[(Qc.mk x1.fo)])>>=fun v8=>
 QR (Q1.mk x0.fj x0.ff x0.fh v8 x0.fu) x1.fd x2>>=fun v9=>
 if(0:Int)=(0:Int)∧0≤wr ((↑v9.snd.fa.length:Int) - (1:Int))∧wr ((↑v9.snd.fa.length:Int) - (1:Int))≤(↑v9.snd.fa.length:Int) then
 some ((↑v9.snd.fa.length:Int):Int)>>=fun aj=>
 if List.length (List.take ((wr ((↑v9.snd.fa.length:Int) - (1:Int))).toNat) v9.snd.fa)=((wr ((↑v9.snd.fa.length:Int) - (1:Int))).toNat) then
 some (List.take ((wr ((↑v9.snd.fa.length:Int) - (1:Int))).toNat) v9.snd.fa)>>=fun a6=>
 if v9.fst !=0 then
 some (v9.fst,(Q1.mk v9.snd.fj v9.snd.ff v9.snd.fh a6 v9.snd.fu))
 else
 some ((↑v9.snd.fu.length:Int):Int)>>=fun aa=>
 some (wr (aa - v7):Int)>>=fun a7=>
 some (Q1.mk v9.snd.fj v9.snd.ff v9.snd.fh a6 v9.snd.fu)>>=fun a8=>
 (if a7==0 then
 some true
 else
 if 1<a7 then
 DS x1.fo>>=fun ad=>
 YS x1.fd ad>>=fun ae=>if ae then
 some true
 else
 some false
 else
 some false)>>=fun ab=>if ab then
 some ((18:Int),a8)
 else
 some ((0:Int),a8)
 else none
 else none
 else none
 partial_fixpoint
def YZ(x0:Q1)(x1:Qf)(x2:List Int):Option (Int×Q1):=
 some ((↑x0.fh.length:Int),x1.fE)>>=fun v0=>
 ZT x0 x2 x1 (↑x0.fh.length:Int) x1.fE 0>>=fun v1=>(match v1 with
 | (.inl v2)=>
 if(0:Int)=(0:Int)∧0≤v0.fst∧v0.fst≤(↑v2.fh.length:Int) then
 if List.length (List.take v0.fst.toNat v2.fh)=v0.fst.toNat then
 some (List.take v0.fst.toNat v2.fh)>>=fun v3=>
 some ((0:Int),(Q1.mk v2.fj v2.ff v3 v2.fa v2.fu))
 else none
 else none
 | (.inr v4)=>
 if(0:Int)=(0:Int)∧0≤v0.fst∧v0.fst≤(↑v4.fst.fh.length:Int) then
 if List.length (List.take v0.fst.toNat v4.fst.fh)=v0.fst.toNat then
 some (List.take v0.fst.toNat v4.fst.fh)>>=fun v5=>
 some (v4.snd,(Q1.mk v4.fst.fj v4.fst.ff v5 v4.fst.fa v4.fst.fu))
 else none
 else none)
 partial_fixpoint
def ZT(x0:Q1)(x2:List Int)(x4:Qf)(x7:Int)(a6:Int)(a4:Int):Option (Q1 ⊕ (Q1×Int)):=
 if a4<a6 then
 if 65536<wr (x0.ff+1) then
 some (.inr ((Q1.mk x0.fj (wr (x0.ff+1)) x0.fh x0.fa x0.fu),(2:Int)))
 else
 if(0:Int)=(0:Int)∧0≤x7∧x7≤(↑x0.fh.length:Int) then
 if x7.toNat≤(List.map Qe x0.fh).length∧(x7.toNat+(1:Nat))*(24:Nat)≤(140737488355328:Nat)∧x7.toNat+(1:Nat)≤(9223372036854775807:Nat) then
 some ((Qg.mk x4.fc a4))>>=fun v0=>
 if List.length ((List.take x7.toNat x0.fh)++[(Qg.mk x4.fc a4)])=(x7.toNat+(1:Nat)) then
 some ((List.take x7.toNat x0.fh)++[(Qg.mk x4.fc a4)])>>=fun v1=>
 QR (Q1.mk x0.fj (wr (x0.ff+1)) v1 x0.fa x0.fu) x4.fd x2>>=fun v2=>
 if v2.fst !=0 then
 some (.inr (v2.snd,v2.fst))
 else
 ZT v2.snd x2 x4 x7 a6 (wr (a4+1))
 else none
 else none
 else none
 else
 some (.inl x0)
 partial_fixpoint
end
theorem Hs:(∀(x0:Q1) (x1:List Q0) (x2:List Int) (r:(Int×Q1)),QR x0 x1 x2=some r→PH 44 [.ptr 0 0 0,Z7 x1,eLI x2] [.cells 0 [.mp 1,ii x0.ff,.ow 2 0 2 (List.length x0.fh),.ow 3 0 13 (List.length x0.fa),.ow 4 0 22 (List.length x0.fu)],.mapI x0.fj,.own 0 2 (List.map Qe x0.fh),.own 0 13 (List.map Qh x0.fa),.own 0 22 (List.map Qk x0.fu)] (Zc r) (Z8 r))∧(∀(x0:Q1) (x2:List Int) (a6:List Q0) (a7:Int) (ad:Int) (o:Q1 ⊕ (Q1×Int)),X5 x0 x2 a6 a7 ad=some o→LOp [.ptr 0 0 0,.mp 1] 44 2 45 [0,2,11,12,13] [.ptr 0 0 0,.sl 1 (List.map eI x2),.sl 20 (List.map Q9 a6),ii a7,ii ad] [.cells 0 [.mp 1,ii x0.ff,.ow 2 0 2 (List.length x0.fh),.ow 3 0 13 (List.length x0.fa),.ow 4 0 22 (List.length x0.fu)],.mapI x0.fj,.own 0 2 (List.map Qe x0.fh),.own 0 13 (List.map Qh x0.fa),.own 0 22 (List.map Qk x0.fu)] [0,6] (Yl x2 (a6,a7) o))∧(∀(x0:Q1) (x1:Qf) (x2:List Int) (r:(Int×Q1)),YG x0 x1 x2=some r→PH 92 [.ptr 0 0 0,Qt x1,eLI x2] [.cells 0 [.mp 1,ii x0.ff,.ow 2 0 2 (List.length x0.fh),.ow 3 0 13 (List.length x0.fa),.ow 4 0 22 (List.length x0.fu)],.mapI x0.fj,.own 0 2 (List.map Qe x0.fh),.own 0 13 (List.map Qh x0.fa),.own 0 22 (List.map Qk x0.fu)] (ZM r) (ZJ r))∧(∀(x0:Q1) (x1:Qf) (x2:List Int) (r:(Int×Q1)),YZ x0 x1 x2=some r→PH 91 [.ptr 0 0 0,Qt x1,eLI x2] [.cells 0 [.mp 1,ii x0.ff,.ow 2 0 2 (List.length x0.fh),.ow 3 0 13 (List.length x0.fa),.ow 4 0 22 (List.length x0.fu)],.mapI x0.fj,.own 0 2 (List.map Qe x0.fh),.own 0 13 (List.map Qh x0.fa),.own 0 22 (List.map Qk x0.fu)] (K0 r) (YX r))∧(∀(x0:Q1) (x2:List Int) (x4:Qf) (x7:Int) (a9:Int) (ae:Int) (o:Q1 ⊕ (Q1×Int)),ZT x0 x2 x4 x7 a9 ae=some o→LOp [.ptr 5 0 0,.ptr 6 0 0,.ptr 0 0 0,.mp 1] 91 4 57 [0,2,3,4,7,17,18] [.ptr 0 0 0,.sl 1 (List.map eI x2),.ptr 5 0 0,.ptr 7 0 0,.ptr 6 0 0,ii a9,ii ae] [.cells 0 [.mp 1,ii x0.ff,.ow 2 0 2 (List.length x0.fh),.ow 3 0 13 (List.length x0.fa),.ow 4 0 22 (List.length x0.fu)],.mapI x0.fj,.own 0 2 (List.map Qe x0.fh),.own 0 13 (List.map Qh x0.fa),.own 0 22 (List.map Qk x0.fu),.cells 0 [.ptr 0 0 0],.cells 0 [ii x7],.cells 0 (Qt x4).cells] [0,3,6,7] (Xo (x2,x4) (x7,a9) o)):=
 QR.mutual_partial_correctness _ _ _ _ _
 (fun X5 Qey x0 x1 x2 r h=>
 PuH2 (hs:=[(12,.n eI 12 none),(3000003,.l [] [0,2,11,12,13] [kk 0,{slot:=0,path:=[0]},{slot:=0,path:=[2],own:=2},{slot:=0,path:=[3],own:=13},{slot:=0,path:=[4],own:=22}] [0,6] [kk 0,{slot:=0,path:=[0]},{slot:=0,path:=[2],own:=2},{slot:=0,path:=[3],own:=13},{slot:=0,path:=[4],own:=22}] (Yl x2))]) (kb:=[kk 1,{slot:=1,path:=[0]},{slot:=1,path:=[2],own:=2},{slot:=1,path:=[3],own:=13},{slot:=1,path:=[4],own:=22}]) ((kN _ (mLen (sh:=Q9) x1) fun v0=>(kL2 (x1,v0) (hL:=(Qey x0 x2 x1 v0 0)) (hA:=fun v1 v3=>(kEH (enc:=Zc) (bt:=Z8) ((0:Int),v3) ⟨.refl _,.refl _⟩))
 (hB:=fun v1 v4=>(kEH (enc:=Zc) (bt:=Z8) (v4.snd,v4.fst) ⟨.refl _,.refl _⟩)))) h))
 (fun X5 YG YZ Qey Qez Qf0 x0 x2 a6 a7 ad o h=>
 Lp1p (hs:=[(14,.split),(16,.e Qt),(19,.h [] VP VJ),(22,.z [{slot:=19,own:=1}] (some (.n eI 22 (some .a)))),(9,.z [{slot:=22,fz:=true}] none),(30,.split),(34,.h [kk 0,{slot:=0,path:=[0]},{slot:=0,path:=[2],own:=2},{slot:=0,path:=[3],own:=13},{slot:=0,path:=[4],own:=22}] K0 YX),(36,.split),(40,.h [kk 0,{slot:=0,path:=[0]},{slot:=0,path:=[2],own:=2},{slot:=0,path:=[3],own:=13},{slot:=0,path:=[4],own:=22}] ZM ZJ),(28,.h [kk 0,{slot:=0,path:=[0]},{slot:=0,path:=[2],own:=2},{slot:=0,path:=[3],own:=13},{slot:=0,path:=[4],own:=22}] Ze Zd),(42,.split),(7000002,.l [] [] [] [0,2,10,11,12,13] [kk 0,{slot:=0,path:=[0]},{slot:=0,path:=[2],own:=2},{slot:=0,path:=[3],own:=13},{slot:=0,path:=[4],own:=22}] (K1 (x2,a6,a7)))]) (kb:=[kk 0,{slot:=0,path:=[0]},{slot:=0,path:=[2],own:=2},{slot:=0,path:=[3],own:=13},{slot:=0,path:=[4],own:=22}]) (kbx:=[kk 0,{slot:=0,path:=[0]},{slot:=0,path:=[2],own:=2},{slot:=0,path:=[3],own:=13},{slot:=0,path:=[4],own:=22}]) (by kernel_rfl) (by kernel_rfl) ((kIfD (p:=ad<a7) (kIxR (l:=a6) (k:=ad) J2 fun v0=>(kH (sh:=VP) (bt:=VJ) (Mp x2) fun v1=>(kA (q:=(v1.length+(1:Nat))*(8:Nat)≤(140737488355328:Nat)∧v1.length+(1:Nat)≤(9223372036854775807:Nat)) (sh:=eI) (l:=v1) (kO (sh:=eI) (v1++[ad]) (mA (sh:=eI) v1 ad) (nA v1 ad) fun v2=>(kT (nM (sh:=eI) v2) (kJ1 (id:=7000002) ad (fun v3 ao v4=>(kIf (c:=v0.fOp==1) (kH (sh:=K0) (bt:=YX) (Qf0 x0 v0 v2) fun v5=>(kXj (alts:=K1 (x2,a6,a7)) ao (v5.snd,v5.fst) (.here _ rfl (.refl _) (.refl _))))
 (kIf (c:=v0.fOp==4) (kH (sh:=ZM) (bt:=ZJ) (Qez x0 v0 v2) fun v6=>(kXj (alts:=K1 (x2,a6,a7)) ao (v6.snd,v6.fst) (.here _ rfl (.refl _) (.refl _))))
 (kH (sh:=Ze) (bt:=Zd) (IF x0 v0 v2) fun v7=>(kXj (alts:=K1 (x2,a6,a7)) ao (v7.snd,v7.fst) (.here _ rfl (.refl _) (.refl _)))))))
 (fun v3 v8=>(kIf (c:=v8.snd !=0) (kX (alts:=Yl x2 (a6,a7)) (.inr (v8.fst,v8.snd)) (.next (.here _ rfl (.refl _) (.refl _))))
 (kM0 (alts:=Yl x2 (a6,a7)) (Qey v8.fst x2 a6 a7 (wr (v3+1))))))))))))
 (kX (alts:=Yl x2 (a6,a7)) (.inl x0) (.here _ rfl (.refl _) (.refl _)))) h))
 (fun QR Qex x0 x1 x2 r h=>
 PuH2 (hs:=[(14,.cb),(22,.c Yj),(26,.split),(28,.split),(36,.h [kk 0,{slot:=0,path:=[0]},{slot:=0,path:=[2],own:=2},{slot:=0,path:=[3],own:=13},{slot:=0,path:=[4],own:=22}] Zc Z8),(41,.n eI 41 none),(50,.a),(51,.s),(1000051,.n Qh 51 (some .s)),(58,.h [kk 0,{slot:=0,path:=[0]},{slot:=0,path:=[2],own:=2},{slot:=0,path:=[3],own:=13},{slot:=0,path:=[4],own:=22}] Zc Z8),(68,.n eI 68 none),(70,.s),(74,.split),(80,.n eI 80 none),(11,.n eI 11 none),(84,.split),(87,.split),(93,.c eLS),(94,.cb),(71,.z [{slot:=70,own:=13,cut:=true}] (some (.n Qh 70 none))),(7600002,.z [kk 6] none),(5000003,.l [] [] [] [0,2,4,8,30] [kk 0,{slot:=0,path:=[0]},{slot:=0,path:=[2],own:=2},{slot:=0,path:=[3],own:=13},{slot:=0,path:=[4],own:=22},kk 4] (YB (x2,x1))),(5000013,.l [] [] [] [0,96] [kk 0,{slot:=0,path:=[0]},{slot:=0,path:=[2],own:=2},{slot:=0,path:=[3],own:=13},{slot:=0,path:=[4],own:=22}] (Xx ()))]) (kb:=[kk 1,{slot:=1,path:=[0]},{slot:=1,path:=[2],own:=2},{slot:=1,path:=[3],own:=13},{slot:=1,path:=[4],own:=22}]) ((kCb (P4 x1.fo) (kT (nM (sh:=Qe) x0.fh) (kC (sh:=Yj) (fun y hy=>Pu.le (SB [] x0.fh x1.fo y hy) (.cons (LeT.nil 8) (.cons (LeT.refl (AV.sl (2:Nat) (List.map Qe x0.fh))) (.cons (LeT.refl (AV.agg [ii x1.fo.fOp,AV.str x1.fo.fc,ii x1.fo.fp.fN,ii x1.fo.fp.fD,ii x1.fo.fb.fx,ii x1.fo.fb.fA,ii x1.fo.fb.fB,ii x1.fo.fb.fy,ii x1.fo.fb.fC,ii x1.fo.fm.fK,AV.sl (2:Nat) (List.map Q7 x1.fo.fm.fL),AV.sl (4:Nat) (List.map Q4 x1.fo.fg),AV.sl (13:Nat) (List.map Qh x1.fo.fe)])) .nil))) (LeT.refl _)) fun v1=>(kJb (id:=5000003) (x0,v1.snd) (fun v2 an v3=>(kIf (c:=v1.snd !=0) (kXj (alts:=YB (x2,x1)) an true (.here () rfl (.refl _) (.refl _)))
 (kIf (c:=v1.fst) (kXj (alts:=YB (x2,x1)) an false (.next (.here () rfl (.refl _) (.refl _))))
 (kXj (alts:=YB (x2,x1)) an true (.here () rfl (.refl _) (.refl _))))))
 (fun v2=>(kEH (enc:=ZM) (bt:=ZJ) (v2.snd,v2.fst) ⟨.refl _,.refl _⟩))
 (fun v2=>(kH (sh:=Zc) (bt:=Z8) (Qex v2.fst x1.fd x2) fun v6=>(kEH (enc:=ZM) (bt:=ZJ) (v6.fst,v6.snd) ⟨.refl _,.refl _⟩))))))
 (kN (↑x0.fu.length:Int) rfl fun v7=>(kA (q:=(x0.fa.length+(1:Nat))*(160:Nat)≤(140737488355328:Nat)∧x0.fa.length+(1:Nat)≤(9223372036854775807:Nat)) (sh:=Qh) (l:=x0.fa) (kT (by omega:0≤(↑x0.fa.length:Int)∧(↑x0.fa.length:Int)< (↑(x0.fa.length+(1:Nat)):Int)) (kT (by simp:(↑x0.fa.length:Int).toNat< (List.map Qh x0.fa++[AV.agg [ii (0:Int),AV.str [],ii (0:Int),ii (0:Int),ii (0:Int),ii (0:Int),ii (0:Int),ii (0:Int),ii (0:Int),ii (0:Int),AV.nil,AV.nil,AV.nil]]).length) (kBE (sh:=Qh) (x0.fa++[(Qc.mk x1.fo)]) (mZL (z:=AV.agg [ii (0:Int),AV.str [],ii (0:Int),ii (0:Int),ii (0:Int),ii (0:Int),ii (0:Int),ii (0:Int),ii (0:Int),ii (0:Int),AV.nil,AV.nil,AV.nil]) (mAR IJ x0.fa x1.fo)) fun v8 ay=>(kH (sh:=Zc) (bt:=Z8) (fun y hy=>PuH.le (Qex (Q1.mk x0.fj x0.ff x0.fh v8 x0.fu) x1.fd x2 y hy) (.cons lr (.cons lr (.cons lr .nil))) (.cons (LeB.cells (0:Nat) (.cons lr (.cons lr (.cons lr (.cons (LeV.owl (by simp[ay]:x0.fa.length+(1:Nat)=List.length v8)) (.cons lr .nil)))))) (.cons (LeB.refl (Box.mapI x0.fj)) (.cons (LeB.refl (Box.own (0:Nat) (2:Nat) (List.map Qe x0.fh))) (.cons (LeB.refl (Box.own (0:Nat) (13:Nat) (List.map Qh v8))) (.cons (LeB.refl (Box.own (0:Nat) (22:Nat) (List.map Qk x0.fu))) .nil))))) (.refl _) (.refl _)) fun v9=>(kG (p:=(0:Int)=(0:Int)∧0≤wr ((↑v9.snd.fa.length:Int) - (1:Int))∧wr ((↑v9.snd.fa.length:Int) - (1:Int))≤(↑v9.snd.fa.length:Int)) (kN (↑v9.snd.fa.length:Int) rfl fun b2=>(kOc (sh:=Qh) (List.take ((wr ((↑v9.snd.fa.length:Int) - (1:Int))).toNat) v9.snd.fa) (mT (sh:=Qh) v9.snd.fa ((wr ((↑v9.snd.fa.length:Int) - (1:Int))).toNat)) fun aq=>(kIf (c:=v9.fst !=0) (kEH (enc:=ZM) (bt:=ZJ) (v9.fst,(Q1.mk v9.snd.fj v9.snd.ff v9.snd.fh aq v9.snd.fu)) ⟨.refl _,.refl _⟩)
 (kN (↑v9.snd.fu.length:Int) rfl fun b0=>(kN (wr (b0 - v7)) rfl fun ar=>(kJb (id:=5000013) (Q1.mk v9.snd.fj v9.snd.ff v9.snd.fh aq v9.snd.fu) (fun ak ag b3=>(kIf (c:=ar==0) (kXj (alts:=Xx ()) ag true (.here () rfl (.refl _) (.refl _)))
 (kIfD (p:=1<ar) (kC (sh:=eLS) (Bj x1.fo) fun b1=>(kCb (AD x1.fd b1) (kXj (alts:=Xx ()) ag true (.here () rfl (.refl _) (.refl _)))
 (kXj (alts:=Xx ()) ag false (.next (.here () rfl (.refl _) (.refl _))))))
 (kXj (alts:=Xx ()) ag false (.next (.here () rfl (.refl _) (.refl _)))))))
 (fun ak=>(kEH (enc:=ZM) (bt:=ZJ) ((18:Int),ak) ⟨.refl _,.refl _⟩))
 (fun ak=>(kEH (enc:=ZM) (bt:=ZJ) ((0:Int),ak) ⟨.refl _,.refl _⟩)))))))))))))))) h))
 (fun ZT Qf1 x0 x1 x2 r h=>
 PuHD1 (hs:=[(14,.n eI 14 none),(3000005,.l [] [0,2,3,4,7,17,18] [kk 0,{slot:=0,path:=[0]},{slot:=0,path:=[2],own:=2},{slot:=0,path:=[3],own:=13},{slot:=0,path:=[4],own:=22},kk 3,kk 7,kk 4] [0,3,6,7] [kk 0,{slot:=0,path:=[0]},{slot:=0,path:=[2],own:=2},{slot:=0,path:=[3],own:=13},{slot:=0,path:=[4],own:=22},kk 3,kk 7] (Xo (x2,x1)))]) (hd:=[(8,.s),(9,.z [{slot:=8,own:=2,cut:=true}] (some (.n Qe 8 none)))]) (ks:=[0,2,3,4,7]) (kd:=[kk 0,{slot:=0,path:=[0]},{slot:=0,path:=[2],own:=2},{slot:=0,path:=[3],own:=13},{slot:=0,path:=[4],own:=22},kk 3,kk 7,kk 4]) (kb:=[kk 1,{slot:=1,path:=[0]},{slot:=1,path:=[2],own:=2},{slot:=1,path:=[3],own:=13},{slot:=1,path:=[4],own:=22}]) (by kernel_rfl) ((kL2 ((↑x0.fh.length:Int),x1.fE) (hL:=(Qf1 x0 x2 x1 (↑x0.fh.length:Int) x1.fE 0)) (hA:=fun v0 v2=>(kG (p:=(0:Int)=(0:Int)∧0≤v0.fst∧v0.fst≤(↑v2.fh.length:Int)) (kOc (sh:=Qe) (List.take v0.fst.toNat v2.fh) (mT (sh:=Qe) v2.fh v0.fst.toNat) fun v3=>(kEH (enc:=K0) (bt:=YX) ((0:Int),(Q1.mk v2.fj v2.ff v3 v2.fa v2.fu)) ⟨.refl _,.refl _⟩))))
 (hB:=fun v0 v4=>(kG (p:=(0:Int)=(0:Int)∧0≤v0.fst∧v0.fst≤(↑v4.fst.fh.length:Int)) (kOc (sh:=Qe) (List.take v0.fst.toNat v4.fst.fh) (mT (sh:=Qe) v4.fst.fh v0.fst.toNat) fun v5=>(kEH (enc:=K0) (bt:=YX) (v4.snd,(Q1.mk v4.fst.fj v4.fst.ff v5 v4.fst.fa v4.fst.fu)) ⟨.refl _,.refl _⟩))))) h))
 (fun QR ZT Qex Qf1 x0 x2 x4 x7 a9 ae o h=>
 Lp1p (hs:=[(19,.split),(32,.split),(43,.n Qe 43 none),(52,.h [kk 0,{slot:=0,path:=[0]},{slot:=0,path:=[2],own:=2},{slot:=0,path:=[3],own:=13},{slot:=0,path:=[4],own:=22}] Zc Z8),(54,.split),(39,.s),(45,.n Qe 45 (some .ac))]) (kb:=[kk 0,{slot:=0,path:=[0]},{slot:=0,path:=[2],own:=2},{slot:=0,path:=[3],own:=13},{slot:=0,path:=[4],own:=22},kk 3,kk 7,kk 4]) (kbx:=[kk 0,{slot:=0,path:=[0]},{slot:=0,path:=[2],own:=2},{slot:=0,path:=[3],own:=13},{slot:=0,path:=[4],own:=22},kk 3,kk 7]) (by kernel_rfl) (by kernel_rfl) ((kIfD (p:=ae<a9) (kIfD (p:=65536<wr (x0.ff+1)) (kX (alts:=Xo (x2,x4) (x7,a9)) (.inr ((Q1.mk x0.fj (wr (x0.ff+1)) x0.fh x0.fa x0.fu),(2:Int))) (.next (.here _ rfl (.refl _) (.refl _))))
 (kG (p:=(0:Int)=(0:Int)∧0≤x7∧x7≤(↑x0.fh.length:Int)) (kG (p:=x7.toNat≤(List.map Qe x0.fh).length∧(x7.toNat+(1:Nat))*(24:Nat)≤(140737488355328:Nat)∧x7.toNat+(1:Nat)≤(9223372036854775807:Nat)) (kW (sh:=Qe) (Qg.mk x4.fc ae) lr fun v0=>(kOc (sh:=Qe) ((List.take x7.toNat x0.fh)++[(Qg.mk x4.fc ae)]) (mAp (sh:=Qe) (mT (sh:=Qe) x0.fh x7.toNat) (rfl:List.map Qe [(Qg.mk x4.fc ae)]=List.map Qe [(Qg.mk x4.fc ae)])) fun v1=>(kH (sh:=Zc) (bt:=Z8) (Qex (Q1.mk x0.fj (wr (x0.ff+1)) v1 x0.fa x0.fu) x4.fd x2) fun v2=>(kIf (c:=v2.fst !=0) (kX (alts:=Xo (x2,x4) (x7,a9)) (.inr (v2.snd,v2.fst)) (.next (.here _ rfl (.refl _) (.refl _))))
 (kM0 (alts:=Xo (x2,x4) (x7,a9)) (Qf1 v2.snd x2 x4 x7 a9 (wr (ae+1)))))))))))
 (kX (alts:=Xo (x2,x4) (x7,a9)) (.inl x0) (.here _ rfl (.refl _) (.refl _)))) h))
theorem E6(x0 x1 x2 r)(h:QR x0 x1 x2=some r):PH 44 [.ptr 0 0 0,Z7 x1,eLI x2] [.cells 0 [.mp 1,ii x0.ff,.ow 2 0 2 (List.length x0.fh),.ow 3 0 13 (List.length x0.fa),.ow 4 0 22 (List.length x0.fu)],.mapI x0.fj,.own 0 2 (List.map Qe x0.fh),.own 0 13 (List.map Qh x0.fa),.own 0 22 (List.map Qk x0.fu)] (Zc r) (Z8 r):=(Hs).1 x0 x1 x2 r h
end Go.Proofs.YtkgphhemcglgnaaGreatDoor
noncomputable section
namespace Go.Proofs.YtkgphhemcglgnaaGreatDoor
open Go HY
set_option maxRecDepth 1000000
abbrev Jj(s:Qp)(u:((List (List Int))×Int))(o:Q1):List Alt:=[⟨fun(x:Q1)=>x=o,.exit 0,fun x=>[.ptr 0 0 0,.ptr 1 0 0,.ptr 1 0 0],fun x=>[.cells 0 (Zf s).cells,.cells 0 [.mp 2,ii x.ff,.ow 3 0 2 (List.length x.fh),.ow 4 0 13 (List.length x.fa),.ow 5 0 22 (List.length x.fu)],.mapI x.fj,.own 0 2 (List.map Qe x.fh),.own 0 13 (List.map Qh x.fa),.own 0 22 (List.map Qk x.fu)]⟩]
def Xh(a3:Q1)(a5:List (List Int))(a6:Int)(a4:Int):Option Q1:=
 if a4<a6 then
 ix a5 a4>>=fun v0=>
 Df v0>>=fun v1=>
 Xh (Q1.mk (UC v1 a4 a3.fj) a3.ff a3.fh a3.fa a3.fu) a5 a6 (wr (a4+1))
 else
 some a3
 partial_fixpoint
theorem E4(x1:Qp)(a3:Q1)(a5:List (List Int))(a6:Int)(a4:Int)(o:Q1)(h:Xh a3 a5 a6 a4=some o):LO 13 6 48 [1,6,20,22,23,24] [.ptr 0 0 0,.ptr 1 0 0,.ptr 1 0 0,.sl 1 (List.map eLI a5),ii a6,ii a4] [.cells 0 (Zf x1).cells,.cells 0 [.mp 2,ii a3.ff,.ow 3 0 2 (List.length a3.fh),.ow 4 0 13 (List.length a3.fa),.ow 5 0 22 (List.length a3.fu)],.mapI a3.fj,.own 0 2 (List.map Qe a3.fh),.own 0 13 (List.map Qh a3.fa),.own 0 22 (List.map Qk a3.fu)] [1,6,20] (Jj x1 (a5,a6) o):=
 Xh.partial_correctness a5 a6 (fun a3 a4 o=>∀(x1:Qp),LO 13 6 48 [1,6,20,22,23,24] [.ptr 0 0 0,.ptr 1 0 0,.ptr 1 0 0,.sl 1 (List.map eLI a5),ii a6,ii a4] [.cells 0 (Zf x1).cells,.cells 0 [.mp 2,ii a3.ff,.ow 3 0 2 (List.length a3.fh),.ow 4 0 13 (List.length a3.fa),.ow 5 0 22 (List.length a3.fu)],.mapI a3.fj,.own 0 2 (List.map Qe a3.fh),.own 0 13 (List.map Qh a3.fa),.own 0 22 (List.map Qk a3.fu)] [1,6,20] (Jj x1 (a5,a6) o))
 (fun Xh Qep a3 a4 o h x1=>
 Lp4 (hs:=[(25,.split),(27,.e eLI),(34,.c eS)]) (kb:=[kk 1,kk 20,{slot:=20,path:=[0]},{slot:=20,path:=[2],own:=2},{slot:=20,path:=[3],own:=13},{slot:=20,path:=[4],own:=22}]) (kbx:=[kk 1,kk 20,{slot:=20,path:=[0]},{slot:=20,path:=[2],own:=2},{slot:=20,path:=[3],own:=13},{slot:=20,path:=[4],own:=22}]) rfl h (q:=qD (hA:=qIx (hA:=fun v0=>qC (hA:=fun v1=>⟨fun _=>kM0 (alts:=Jj x1 (a5,a6)) (fun y hy=>Qep (Q1.mk (UC v1 a4 a3.fj) a3.ff a3.fh a3.fa a3.fu) (wr (a4+1)) y hy x1)⟩))))) a3 a4 o h x1
def Jc(x0:Qp):Option (List QE×Int):=
 Vl x0>>=fun v0=>
 if v0.snd !=0 then
 some ([],v0.snd)
 else
 K9 x0>>=fun v1=>
 some (List.length v1:Int)>>=fun v2=>
 some (v1,v2)>>=fun v3=>
 Xh (Q1.mk [] (0:Int) [] [] []) v1 v2 (0:Int)>>=fun v5=>
 QR v5 x0.fd []>>=fun v6=>
 if v6.fst !=0 then
 some ([],v6.fst)
 else
 some (v6.snd.fu,(0:Int))
theorem S2(x0 r)(h:Jc x0=some r):PU 13 [Zf x0] (DB r):=
 Pu4 (hs:=[(12,.c LU),(16,.split),(22,.c eLLI),(23,.n eI 23 none),(40,.h [kk 0,{slot:=0,path:=[0]},{slot:=0,path:=[2],own:=2},{slot:=0,path:=[3],own:=13},{slot:=0,path:=[4],own:=22}] Zc Z8),(42,.split),(3000007,.l [] [1,6,20,22,23,24] [kk 1,kk 20,{slot:=20,path:=[0]},{slot:=20,path:=[2],own:=2},{slot:=20,path:=[3],own:=13},{slot:=20,path:=[4],own:=22}] [1,6,20] [kk 1,kk 20,{slot:=20,path:=[0]},{slot:=20,path:=[2],own:=2},{slot:=20,path:=[3],own:=13},{slot:=20,path:=[4],own:=22}] (Jj x0))]) (Jc.eq_1 x0) h (q:=qC (hA:=fun v0=>qIf (hA:=⟨fun _=>kE (enc:=DB) ([],v0.snd) (LeT.tup (.cons (LeT.nil 22) (.cons (LeT.refl (ii v0.snd)) .nil)))⟩) (hB:=qC (hA:=fun v1=>qN (hA:=fun v2=>qL1 (hL:=⟨E4 x0 (Q1.mk [] (0:Int) [] [] []) v1 v2 (0:Int)⟩) (hA:=fun v3 v5=>qH (sh:=Zc) (bt:=Z8) (fun y hy=>PuH.le (E6 v5 x0.fd [] y hy) (.cons lr (.cons lr (.cons (LeV.nil 1) .nil))) (.refl _) (.refl _) (.refl _)) (hA:=fun v6=>qIf (hA:=⟨fun _=>kE (enc:=DB) ([],v6.fst) (LeT.tup (.cons (LeT.nil 22) (.cons (LeT.refl (ii v6.fst)) .nil)))⟩) (hB:=qT (nM (sh:=Qk) v6.snd.fu)))))))))
@[reducible,instance] def Q8k x0:=Lw.mk (S2 x0)
end Go.Proofs.YtkgphhemcglgnaaGreatDoor
noncomputable section
namespace Go.Proofs.YtkgphhemcglgnaaGreatDoor
open Go HY
set_option maxRecDepth 1000000
abbrev U1(s:Unit)(u:((List Int)×Int))(o:(List Q0) ⊕ (List Q0)):List Alt:=[⟨fun(x:List Q0)=>(Sum.inl x:(List Q0) ⊕ (List Q0))=o,.exit 0,fun x=>[.undef,.sl 20 (List.map Q9 x)],fun x=>[]⟩,⟨fun(x:List Q0)=>(Sum.inr x:(List Q0) ⊕ (List Q0))=o,.ret,fun x=>[.sl 20 (List.map Q9 x),.undef],fun x=>[]⟩]
abbrev Dw(s:((List Int)×Int))(u:((List Q0)× (List Q0)×Int×Int))(o:Bool):List Alt:=jb o (fun b=>[.sl 20 (List.map Q9 (u.1)),.ow 0 0 20 (List.length (u.2.1)),ii (u.2.2.1),.sl 1 (List.map eI (s.1)),ii (s.2),ii (u.2.2.2),.bool b]) [.own 0 20 (List.map Q9 (u.2.1))]
def XW(x0:List Q0)(x5:List Q0)(x8:List Int)(x9:Int)(a4:Int):Option ((List Q0) ⊕ (List Q0)):=
 if a4<x9 then
 ix x8 a4>>=fun v0=>
 some (x0,x5,v0,a4)>>=fun v1=>
 (if v0<0 then
 some true
 else
 some (List.length x0:Int)>>=fun v3=>
 if v3≤v0 then
 some true
 else
 some false)>>=fun v2=>if v2 then
 some (.inr [])
 else
 Option.map Q0.f (ix v1.fst v1.snd.snd.fst)>>=fun v6=>
 if(v1.snd.fst.length+(1:Nat))*(256:Nat)≤(140737488355328:Nat)∧v1.snd.fst.length+(1:Nat)≤(9223372036854775807:Nat) then
 some (v1.snd.fst++[(Q0.mk v6)])>>=fun v7=>
 Option.map Q0.f (ix v1.fst v1.snd.snd.fst)>>=fun v8=>
 XW v8.fd v7 x8 x9 (wr (v1.snd.snd.snd+1))
 else none
 else
 some (.inl x5)
 partial_fixpoint
theorem R0(x0 x5 x8 x9 a3 o)(h:XW x0 x5 x8 x9 a3=some o):LO 52 3 36 [0,5,8,9,10] [.sl 20 (List.map Q9 x0),.ow 0 0 20 (List.length x5),.sl 1 (List.map eI x8),ii x9,ii a3] [.own 0 20 (List.map Q9 x5)] [4,5] (U1 () (x8,x9) o):=
 XW.partial_correctness x8 x9 (fun x0 x5 a3 o=>LO 52 3 36 [0,5,8,9,10] [.sl 20 (List.map Q9 x0),.ow 0 0 20 (List.length x5),.sl 1 (List.map eI x8),ii x9,ii a3] [.own 0 20 (List.map Q9 x5)] [4,5] (U1 () (x8,x9) o))
 (fun XW Qdw x0 x5 a3 o h=>
 have i0 a b c:=Ll.mk (Qdw a b c);Lp4 (hs:=[(11,.split),(12,.e eI),(15,.split),(19,.n eI 19 none),(20,.split),(25,.e Qt),(28,.z [{slot:=22,own:=20}] (some (.n Q9 28 (some .a)))),(31,.e Qt),(5000005,.l [] [] [] [0,5,7,8,9,10,21] [{slot:=5,own:=20}] (Dw (x8,x9)))]) (kb:=[{slot:=5,own:=20}]) (kbx:=[{slot:=4,fz:=true},{slot:=5,fz:=true}]) rfl h (q:=qD (hA:=qIx (hA:=fun v0=>qB (Dw (x8,x9)) (hA:=fun v1=>qT (nM (sh:=Q9) v1.snd.fst) (hA:=⟨fun _=>kX (alts:=U1 () (x8,x9)) (.inr []) (.next (.here _ rfl (.cons (LeV.nil 20) (.cons (LeV.undef (AV.sl (20:Nat) (List.map Q9 v1.snd.fst))) .nil)) (.refl _)))⟩)) (hB:=fun v1=>qIxR (hA:=fun v6=>qA v1.snd.fst (hA:=qO (mAR Vf v1.snd.fst v6) (nA v1.snd.fst (Q0.mk v6))))))) (hB:=qT (nM (sh:=Q9) x5)))) x0 x5 a3 o h
@[reducible,instance] def Q6e x0 x5 x8 x9 x10:=Ll.mk (R0 x0 x5 x8 x9 x10)
def JP(x0:List Q0)(x1:List Int):Option (List Q0):=
 some (List.length x1:Int)>>=fun v0=>
 some (x1,v0)>>=fun v1=>
 XW x0 [] x1 v0 0>>=fun v2=>(match v2 with
 | (.inl v3)=>
 some v3
 | (.inr v4)=>
 some v4)
theorem SK(x0 x1 r)(h:JP x0 x1=some r):PU 52 [Z7 x0,eLI x1] (Z7 r):=
 Pu4 (hs:=[(9,.n eI 9 none),(3000004,.l [] [0,5,8,9,10] [{slot:=5,own:=20}] [4,5] [{slot:=4,fz:=true},{slot:=5,fz:=true}] (U1 ()))]) (JP.eq_1 x0 x1) h
@[reducible,instance] def Q93 x0 x1:=Lw.mk (SK x0 x1)
abbrev U8(s:Unit)(u:((List Q0)×Int))(o:List Qg):List Alt:=[⟨fun(x:List Qg)=>x=o,.exit 0,fun x=>[.sl 2 (List.map Qe x)],fun x=>[]⟩]
abbrev UO(s:((List Q0)×Int))(u:Int)(o:List Qg):List Alt:=[⟨fun(x:List Qg)=>x=o,.normal,fun x=>[.ow 0 0 2 (List.length x),.sl 20 (List.map Q9 (s.1)),ii (s.2),ii u],fun x=>[.own 0 2 (List.map Qe x)]⟩]
def X1(x5:List Qg)(x6:List Q0)(a4:Int)(a3:Int):Option (List Qg):=
 if a3<a4 then
 some a3>>=fun v0=>
 (Option.map Q0.f (ix x6 a3)>>=fun v2=>
 if v2.fOp==1 then
 Option.map Q0.f (ix x6 a3)>>=fun v3=>
 Option.map Q0.f (ix x6 a3)>>=fun v4=>
 some ((Qg.mk v3.fc v4.fE))>>=fun v5=>
 if(x5.length+(1:Nat))*(24:Nat)≤(140737488355328:Nat)∧x5.length+(1:Nat)≤(9223372036854775807:Nat) then
 some (x5++[(Qg.mk v3.fc v4.fE)])>>=fun v6=>
 some v6
 else none
 else
 some x5)>>=fun v7=>
 X1 v7 x6 a4 (wr (v0+1))
 else
 some x5
 partial_fixpoint
theorem Ix(x5 x6 x15 a3 o)(h:X1 x5 x6 x15 a3=some o):LO 20 4 41 [5,6,15,16] [.ow 0 0 2 (List.length x5),.sl 20 (List.map Q9 x6),ii x15,ii a3] [.own 0 2 (List.map Qe x5)] [5] (U8 () (x6,x15) o):=
 X1.partial_correctness x6 x15 (fun x5 a3 o=>LO 20 4 41 [5,6,15,16] [.ow 0 0 2 (List.length x5),.sl 20 (List.map Q9 x6),ii x15,ii a3] [.own 0 2 (List.map Qe x5)] [5] (U8 () (x6,x15) o))
 (fun X1 Qda x5 a3 o h=>
 have i0 a b:=Ll.mk (Qda a b);Lp4 (hs:=[(17,.split),(21,.e Qt),(24,.split),(28,.e Qt),(33,.e Qt),(36,.n Qe 36 none),(38,.z [{slot:=25,own:=2}] (some (.n Qe 38 (some .a)))),(7000001,.l [] [] [] [5,6,15,16] [{slot:=5,own:=2}] (UO (x6,x15)))]) (kb:=[{slot:=5,own:=2}]) (kbx:=[{slot:=5,fz:=true}]) rfl h (q:=qD (hA:=qJ (UO (x6,x15)) (hI:=fun v0 v1=>qIxR (hA:=fun v2=>qIf (hA:=qIxR (hA:=fun v3=>qIxR (hA:=fun v4=>qW (hA:=fun v5=>qA x5 (hA:=qO (mA (sh:=Qe) x5 (Qg.mk v3.fc v4.fE)) (nA x5 (Qg.mk v3.fc v4.fE)))))))))) (hB:=qT (nM (sh:=Qe) x5)))) x5 a3 o h
@[reducible,instance] def Q1q x5 x6 x15 x16:=Ll.mk (Ix x5 x6 x15 x16)
def V4(x0:Qp)(x1:List Int):Option (List Qg):=
 JP x0.fd x1>>=fun v0=>
 some (List.length v0:Int)>>=fun v1=>
 some (v0,(if true=true then max (0:Int) (wr (v1 - (1:Int))) else min (0:Int) (wr (v1 - (1:Int)))))>>=fun v2=>
 X1 [] v0 (if true=true then max (0:Int) (wr (v1 - (1:Int))) else min (0:Int) (wr (v1 - (1:Int)))) (0:Int)>>=fun v4=>
 some v4
theorem HX(x0 x1 r)(h:V4 x0 x1=some r):PU 20 [Zf x0,eLI x1] (Z3 r):=
 Pu4 (hs:=[(11,.c Z7),(13,.n eI 13 none),(3000005,.l [] [5,6,15,16] [{slot:=5,own:=2}] [5] [{slot:=5,fz:=true}] (U8 ()))]) (V4.eq_1 x0 x1) h
@[reducible,instance] def Q56 x0 x1:=Lw.mk (HX x0 x1)
inductive Gd:Q0→Prop
 |mk (x:Qf) (op:x.fOp=1∨x.fOp=2∨x.fOp=3∨x.fOp=4) (m:x.fOp=1→1≤x.fE∧x.fE≤65536) (st:x.fOp=2∨x.fOp=3→x.fd=[]) (cd:x.fOp=4→GJ x.fo=0) (bd:∀a∈x.fd,Gd a):Gd (.mk x)
theorem exprR_0{n:Qp}{sc:List Str}{x:Q3}(h:(U5 n sc x).2=0):GJ x=0:=by
 unfold U5 at h;by_cases h0:GJ x=0;·exact h0
 ·rw[if_pos h0] at h;exact h
theorem stErr_0{n:Qp}{sc a3:List Str}{x:Qf}(h:GN n sc a3 x=0):(x.fOp=1∨x.fOp=2∨x.fOp=3∨x.fOp=4)∧(x.fOp=1→1≤x.fE∧x.fE≤65536)∧(x.fOp=2∨x.fOp=3→x.fd=[])∧(x.fOp=4→GJ x.fo=0):=by
 unfold GN at h;cases hp:plS x with
 |false=>rw[if_pos hp] at h;cases h
 |true=>
  rw[if_neg (by simp[hp])] at h
  unfold plS at hp;obtain⟨h1,_,_,_,_,_,h7⟩:=of_decide_eq_true hp;refine⟨h1,fun e=> ?_,fun e=>cqn (h7 e),fun e=> ?_⟩
  ·rw[if_pos e] at h;unfold Tk at h;split at h;·cases h
   ·split at h;·cases h
    ·split at h;·cases h
     ·omega
  ·rw[if_neg (by omega),if_pos e] at h
   by_cases h0:(U5 n sc x.fo).2=0;·exact exprR_0 h0
   ·rw[if_pos h0] at h;exact absurd h h0
theorem gd_of(n:Qp):∀l,okSs l→∀(sc:List Str) (a6:List Int) (a3:List Str),(bdB n sc a6 l a3).2.2=0→∀a∈l,Gd a:=GG fun l hl ih sc a6 a3=>by
 have key:∀(t:List Q0),(∀s∈t,s∈l)→∀(i:Int) (a3:List Str),(bdT n sc a6 t i a3).2.2=0→∀a∈t,Gd a:=by
  intro t
  induction t with
  |nil=>intro _ i a3 _ a ha;cases ha
  |cons b t iht=>
   intro hm i a3 h;have h2:=iht (fun s hs=>hm s (by simp[hs]))
   have h3:=ih b (hm b (by simp))
   rw[Ea] at h;have out:GN n sc a3 b.f=0→(∀a∈b.f.fd,Gd a)→(∀a∈t,Gd a)→∀a∈b::t,Gd a:=fun h0 hb ht a ha=>by
    rcases List.mem_cons.1 ha with rfl | ha
    ·obtain⟨q1,q2,q3,q4⟩:=stErr_0 h0;cases a with
     |mk x=>exact .mk x q1 q2 q3 q4 hb
    ·exact ht a ha
   by_cases h0:GN n sc a3 b.f=0
   ·rw[if_neg (by simpa using h0)] at h
    split at h
    ·split at h;·rename_i h4;exact absurd h h4
     ·rename_i h4;exact out h0 (h3 _ _ _ (by simpa using h4)) (h2 _ _ h)
    ·split at h;·rename_i h4;exact absurd h h4
     ·rename_i h4;exact out h0 (h3 _ _ _ (by simpa using h4)) (h2 _ _ h)
   ·rw[if_pos h0] at h;exact absurd h h0
 exact key l (fun _ h=>h) 0 a3
theorem vd_0{n:Qp}(hl:okSs n.fd)(h:(vd n).2=0):dpL n.fd≤40∧szL n.fd≤2000∧∀a∈n.fd,Gd a:=by
 unfold vd at h;split at h;·cases h
 ·split at h;·cases h
  ·split at h;·rename_i h3;exact absurd h h3
   ·exact⟨by omega,by omega,gd_of n _ hl _ _ _ h⟩
theorem Pa{a:Q0}:∀ {l:List Q0},a∈l→dp a≤dpL l
 |b::t,h=>by
  rw[BC];rcases List.mem_cons.1 h with rfl | h
  ·omega
  ·have:=Pa h;omega
theorem Q45{a:Q0}:∀ {l:List Q0},a∈l→sz a≤szL l
 |b::t,h=>by
  rw[Nh];rcases List.mem_cons.1 h with rfl | h
  ·omega
  ·have:=Q45 h;omega
theorem Q44:∀l:List Q0,l.length≤szL l
 | []=>by simp
 |a::t=>by
  rw[Nh,sz_f,List.length_cons];have:=Q44 t;omega
def u8k(n:Int):List UInt8:=if n<128 then [UInt8.ofNat n.toNat] else [UInt8.ofNat (192+n.toNat/64),UInt8.ofNat (128+n.toNat%64)]
def keyL(l:List Int):Str:=l.flatMap u8k
theorem enc_u8{n:Int}(h:0≤n∧n<2048):(Utf8.encode n).data.toList=u8k n:=by
 unfold Utf8.encode u8k;have hv:Utf8.valid n=true:=by unfold Utf8.valid;simp;omega
 simp only[hv,if_true];by_cases h1:n<128;·rw[if_pos (by omega),if_pos h1]
 ·rw[if_neg (by omega),if_pos (by omega),if_neg h1]
theorem Fa:∀(l:List Int) (a:ByteArray),(l.foldl (fun r n=>r++Utf8.encode n) a).data.toList=a.data.toList++l.flatMap fun n=>(Utf8.encode n).data.toList
 | [],a=>by simp
 |n::t,a=>by rw[List.foldl_cons,Fa t,List.flatMap_cons];simp
theorem Qa5{l:List Int}(h:∀n∈l,0≤n∧n<2048):LN l=keyL l:=by
 unfold LN runesBytes keyL;rw[Fa];have:∀l:List Int,(∀n∈l,0≤n∧n<2048)→(l.flatMap fun n=>(Utf8.encode n).data.toList)=l.flatMap u8k:=by
  intro l
  induction l with
  |nil=>intro _;rfl
  |cons a t ih=>intro h;rw[List.flatMap_cons,List.flatMap_cons,enc_u8 (h a (by simp)),ih fun n hn=>h n (by simp[hn])]
 rw[this l h];rfl
theorem ofN{a b:Nat}(ha:a<256)(hb:b<256)(h:UInt8.ofNat a=UInt8.ofNat b):a=b:=by
 have:=congrArg UInt8.toNat h;simpa[UInt8.toNat_ofNat,Nat.mod_eq_of_lt ha,Nat.mod_eq_of_lt hb] using this
theorem Pe:∀ {l m:List Int},(∀n∈l,0≤n∧n<2048)→(∀n∈m,0≤n∧n<2048)→keyL l=keyL m→l=m
 | [],[],_,_,_=>rfl
 | [],b::m,_,_,h=>by
  exfalso;unfold keyL u8k at h;rw[List.flatMap_cons] at h;split at h<;>simp at h
 |a::l,[],_,_,h=>by
  exfalso;unfold keyL u8k at h;rw[List.flatMap_cons] at h;split at h<;>simp at h
 |a::l,b::m,hl,hm,h=>by
  have ha:=hl a (by simp)
  have hb:=hm b (by simp)
  have a4:∀n∈l,0≤n∧n<2048:=fun n hn=>hl n (by simp[hn])
  have a5:∀n∈m,0≤n∧n<2048:=fun n hn=>hm n (by simp[hn])
  have h':u8k a++keyL l=u8k b++keyL m:=h;unfold u8k at h';split at h'<;>split at h'
  ·simp only[List.cons_append,List.nil_append,List.cons.injEq] at h';have:=ofN (by omega) (by omega) h'.1
   rw[Pe a4 a5 h'.2];congr 1;omega
  ·simp only[List.cons_append,List.nil_append,List.cons.injEq] at h';have:=ofN (by omega) (by omega) h'.1
   omega
  ·simp only[List.cons_append,List.nil_append,List.cons.injEq] at h';have:=ofN (by omega) (by omega) h'.1
   omega
  ·simp only[List.cons_append,List.nil_append,List.cons.injEq] at h';have h1:=ofN (by omega) (by omega) h'.1
   have h2:=ofN (by omega) (by omega) h'.2.1
   rw[Pe a4 a5 h'.2.2];congr 1;omega
theorem s_key(l:List Int)(hn:l.length≤1000)(h:∀n∈l,0≤n∧n<2048):Df l=some (keyL l):=by
 have L:∀(t p:List Int),l=p++t→KW p l l.length p.length=some l:=by
  intro t
  induction t with
  |nil=>intro p e;rw[KW,if_neg (by rw[e];simp)];rw[e];simp
  |cons a t ih=>
   intro p e;have a3:(p.length:Int)< (l.length:Int):=by rw[e];simp;omega
   have ha:=h a (by rw[e];simp)
   rw[KW,if_pos a3,Vo e,bS,if_pos (by omega),bS,show IntKind.i32.wrap a=a by rw[IntKind.wrap_i32];omega,YU (by omega) a3 (by omega)]
   have:=ih (p++[a]) (by rw[e];simp)
   rw[show((p++[a]).length:Int)=(p.length:Int)+1 by simp] at this
   exact this
 unfold Df;rw[bS,bS];have:=L l [] rfl;rw[show(([]:List Int).length:Int)=0 from rfl] at this;rw[this,bS,bS,Qa5 h]
def StA:Qf→List Int→Prop
 |s,[]=>s.fOp=2∨s.fOp=3
 |s,i::q=>∃a:Q0,0≤i∧s.fd[i.toNat]? =some a∧StA a.f q
def StB(l:List Q0):List Int→Prop
 | []=>False
 |i::q=>∃a:Q0,0≤i∧l[i.toNat]? =some a∧StA a.f q
theorem StA_B{s:Qf}{q:List Int}(h:StA s q):(q=[]∧(s.fOp=2∨s.fOp=3))∨StB s.fd q:=by
 cases q with
 |nil=>exact .inl ⟨rfl,h⟩
 |cons i q=>exact .inr h
theorem Q3u(s:Qf):Ue s=some (decide (s.fOp=2∨s.fOp=3)):=by
 unfold Ue;by_cases h:s.fOp=2;·simp[h]
 ·by_cases h3:s.fOp=3<;>simp[h,h3]
theorem Q3s(l:List Int)(h:l.length≤1000):Xm l=some l:=by
 unfold Xm;rw[if_pos (by omega)]
abbrev PsOk(a3:List Int)(l:List Q0)(ps:List (List Int)):Prop:=∀p∈ps,∃q,p=a3++q∧q.length≤dpL l∧∀n∈q,0≤n∧n<szL l
theorem s_stms:∀l,okSs l→∀(a3:List Int) (out:List (List Int)),a3.length+dpL l≤900→out.length+szL l≤100000→
  ∃ps,XM l a3 out=some (out++ps)∧ps.length≤szL l∧PsOk a3 l ps∧∀q,StB l q→a3++q∈ps:=GG fun l hl ih a3 out hw ho=>by
 have key:∀(t p:List Q0),l=p++t→∀out:List (List Int),out.length+szL t≤100000→∃ps,X4 a3 out l l.length p.length=some (out++ps)∧ps.length≤szL t∧PsOk a3 l ps∧
   ∀(k:Nat) (a:Q0) (q:List Int),t[k]? =some a→StA a.f q→a3++((p.length+k:Nat):Int)::q∈ps:=by
  intro t
  induction t with
  |nil=>
   intro p e out ho;rw[X4,if_neg (by rw[e];simp)]
   exact⟨[],by simp,by simp,fun p hp=>(by cases hp),fun k a q h=>(by simp at h)⟩
  |cons s t iht=>
   intro p e out ho;have a5:(p.length:Int)< (l.length:Int):=by rw[e];simp;omega
   have hs:s∈l:=by rw[e];simp
   have hd:=Pa hs;have hz:=Q45 hs;have ag:=Q44 l;rw[dp_f] at hd;rw[sz_f] at hz;rw[Nh,sz_f] at ho;rw[X4,if_pos a5,bS,Vo e,omS,bS,Q3s _ (by omega),bS,if_pos (by omega),bS,bS,Q3u,bS]
   obtain⟨own,hown,hol,hop,hoi⟩:∃own:List (List Int),((if decide (s.f.fOp=2∨s.f.fOp=3)=true then if(out.length+1)*24≤140737488355328∧out.length+1≤9223372036854775807 then some (out++[a3++[(p.length:Int)]])>>=fun v8=>some v8 else none else some out):Option (List (List Int)))=some (out++own)∧own.length≤1∧(∀x∈own,x=a3++[(p.length:Int)])∧((s.f.fOp=2∨s.f.fOp=3)→a3++[(p.length:Int)]∈own):=by
    by_cases h:s.f.fOp=2∨s.f.fOp=3
    ·rw[if_pos (by simpa using h),if_pos (by omega),bS]
     exact⟨[_],rfl,by simp,fun x hx=>by simpa using hx,fun _=>by simp⟩
    ·rw[if_neg (by simpa using h)]
     exact⟨[],by simp,by simp,fun x hx=>by(cases hx),fun h'=>absurd h' h⟩
   rw[hown,bS];obtain⟨ps,h1,h2,h3,h4⟩:=ih s hs (a3++[(p.length:Int)]) (out++own) (by simp;omega) (by simp;omega)
   rw[h1,bS,bS,YU (by omega) a5 (by omega)]
   obtain⟨qs,g1,g2,g3,g4⟩:=iht (p++[s]) (by rw[e];simp) (out++own++ps) (by simp;omega)
   rw[show((p++[s]).length:Int)=(p.length:Int)+1 by simp] at g1
   refine⟨own++ps++qs,by rw[g1];simp,by rw[Nh,sz_f];simp;omega,?_,?_⟩
   ·intro x hx;rw[cqu,cqu] at hx;rcases hx with(hx | hx) | hx
    ·rw[hop x hx];exact⟨_,rfl,by simp;omega,fun n hn=>by simp at hn;subst hn;omega⟩
    ·obtain⟨q,rfl,q2,q3⟩:=h3 x hx;refine⟨(p.length:Int)::q,by simp,by simp;omega,fun n hn=> ?_⟩
     rcases List.mem_cons.1 hn with rfl | hn
     ·omega
     ·have:=q3 n hn;omega
    ·exact g3 x hx
   ·intro k a q hk hq;cases k with
    |zero=>
     simp at hk;subst hk;rcases StA_B hq with⟨rfl,h⟩ | h
     ·exact cqu.2 (.inl (cqu.2 (.inl (hoi h))))
     ·have:=h4 q h;rw[List.append_assoc] at this;exact cqu.2 (.inl (cqu.2 (.inr this)))
    |succ k=>
     have:=g4 k a q (by simpa using hk) hq
     rw[show(p++[s]).length+k=p.length+(k+1) by simp;omega] at this
     exact cqu.2 (.inr this)
 rw[XM,bS,bS];obtain⟨ps,h1,h2,h3,h4⟩:=key l [] rfl out ho;rw[show(([]:List Q0).length:Int)=0 from rfl] at h1;rw[h1,bS];refine⟨ps,rfl,h2,h3,fun q hq=> ?_⟩
 cases q with
 |nil=>exact absurd hq id
 |cons i q=>
  obtain⟨a,i0,ha,hq⟩:=hq;have:=h4 i.toNat a q ha hq;rw[List.length_nil,Nat.zero_add,Int.toNat_of_nonneg i0] at this;exact this
def OV(m:List (Str×Int))(P:List (List Int)):Prop:=∀p∈P,∃j:Nat,VX (keyL p) m=some (j:Int)∧P[j]? =some p
theorem PK(k k':Str)(n:Int):∀m:List (Str×Int),VX k (UC k' n m)=if k'=k then some n else VX k m
 | []=>by
  by_cases h:k'=k;·simp[UC,VX,h]
  ·simp[UC,VX,h,beq_eq_false_iff_ne.2 h]
 |p::r=>by
  have ih:=PK k k' n r;by_cases h1:p.1=k'
  ·have b1:(p.1==k')=true:=beq_iff_eq.2 h1;by_cases h:k'=k
   ·subst h;simp[UC,VX,b1]
   ·have b2:(k'==k)=false:=beq_eq_false_iff_ne.2 h;have b3:(p.1==k)=false:=by rw[h1];exact b2
    simp[UC,VX,b1,b2,b3,h]
  ·have b1:(p.1==k')=false:=beq_eq_false_iff_ne.2 h1;by_cases h2:p.1=k
   ·have b3:(p.1==k)=true:=beq_iff_eq.2 h2;have h:¬k'=k:=fun e=>h1 (by rw[h2,e])
    simp[UC,VX,b1,b3,h]
   ·have b3:(p.1==k)=false:=beq_eq_false_iff_ne.2 h2;simp[UC,VX,b1,b3,ih]
abbrev IsP(p:List Int):Prop:=p.length≤40∧∀n∈p,0≤n∧n<2048
theorem s_nums(P:List (List Int))(hn:P.length≤100000)(hP:∀p∈P,IsP p):∃m,Xh (Q1.mk [] 0 [] [] []) P P.length 0=some (Q1.mk m 0 [] [] [])∧OV m P:=by
 have key:∀(t Q:List (List Int)),P=Q++t→∀m,(∀p∈Q,∃j:Nat,VX (keyL p) m=some (j:Int)∧P[j]? =some p)→∃m',Xh (Q1.mk m 0 [] [] []) P P.length Q.length=some (Q1.mk m' 0 [] [] [])∧OV m' P:=by
  intro t
  induction t with
  |nil=>
   intro Q e m h;rw[Xh,if_neg (by rw[e];simp)]
   rw[List.append_nil] at e;exact⟨m,rfl,by rw[← e] at h;exact h⟩
  |cons x t ih=>
   intro Q e m h;have a3:(Q.length:Int)< (P.length:Int):=by rw[e];simp;omega
   have hx:x∈P:=by rw[e];simp
   have a4:=hP x hx;rw[Xh,if_pos a3,Vo e,bS,s_key x (by omega) a4.2,bS,YU (by omega) a3 (by omega)]
   have:=ih (Q++[x]) (by rw[e];simp) (UC (keyL x) (Q.length:Int) m) (fun p hp=>by
    rw[PK];by_cases hk:keyL x=keyL p
    ·have hp':p∈P:=by
      rw[e];rcases cqu.1 hp with hp | hp
      ·simp[hp]
      ·simp at hp;simp[hp]
     have:=Pe a4.2 (hP p hp').2 hk;subst this;refine⟨Q.length,by rw[if_pos rfl],by rw[e,cqq (Nat.le_refl _)];simp⟩
    ·rw[if_neg hk];rcases cqu.1 hp with hp | hp
     ·exact h p hp
     ·simp at hp;subst hp;exact absurd rfl hk)
   rw[show((Q++[x]).length:Int)=(Q.length:Int)+1 by simp] at this
   exact this
 exact key P [] rfl [] (fun p hp=>by cases hp)
theorem t_Reads(x:Q3)(hx:okE (.mk x))(h:GJ x=0):wp (DS x) (fun r=>r.length≤1099511627776):=by
 obtain⟨hg,hn⟩:=Pb h;have hi:∀e∈ZY (.mk x),e.f.fg.length≤6:=fun e he=>by
  obtain⟨_,hr,_⟩:=RU (hg e he);exact(Pj hr).2.1
 have hs:∀l:List Qc,(∀e∈l,e.f.fg.length≤6)→(l.map fun e=>e.f.fg.length+1).sum≤7*l.length:=by
  intro l
  induction l with
  |nil=>simp
  |cons a t ih=>
   intro h;rw[List.map_cons,List.sum_cons,List.length_cons];have:=h a (by simp)
   have:=ih fun e he=>h e (by simp[he])
   omega
 have hk:rdOk x:=⟨OW _ hx,fun e he=>by have:=hi e he;omega,by have:=hs _ hi;omega⟩
 have hl:=Q3q x hk;have a3:=Q36 (srt (rdN x));rw[Tx] at a3;unfold DS;rw[dif_pos hk];exact QG.2 (by omega)
theorem Q7h(a3:List Str)(hn:a3.length≤1099511627776):∀l,okSs l→wp (YS l a3) (fun _=>True):=GG fun l hl ih=>by
 have a8:=hl.1;have L:∀i:Int,0≤i→i≤l.length→wp (QS l a3 l.length i) (fun _=>True):=Pf l.length (by
  rw[QS];repeat' (first | exact trivial | (intro _) | (refine And.intro ?_ ?_) | (refine WC (by omega) (by omega) fun _ _=> ?_) | (simp only[zz,↓reduceIte]) | (split))) (by
  intro i h0 h1 a5;have hw:wr (i+1)=i+1:=ZB (by omega)
  have a4:∀a∈l,wp (Jd a.f a3) (fun _=>True):=fun a ha=>by
   rw[Jd,Q3u,bS];have:=ih a ha;simp only[LK a3 a.f.fc (by omega),bS]
   repeat' (first | exact trivial | (intro _) | (refine And.intro ?_ ?_) | (refine Qj (this) fun _ _=> ?_) | (refine WC (by omega) (by omega) fun _ _=> ?_) | (simp only[zz,↓reduceIte]) | (split))
  rw[QS]
  repeat' (first | exact trivial | (intro _) | (refine And.intro ?_ ?_) | (rw[hw];exact a5) | (refine Qj (a4 _ (by assumption)) fun _ _=> ?_) | (refine WC (by omega) (by omega) fun _ _=> ?_) | (simp only[zz,↓reduceIte]) | (split)))
 rw[YS,XT,Yx]
 repeat' (first | exact trivial | (intro _) | (refine And.intro ?_ ?_) | (refine Qj (L 0 (by omega) (by omega)) fun _ _=> ?_) | (refine WC (by omega) (by omega) fun _ _=> ?_) | (simp only[zz,↓reduceIte]) | (split))
theorem t_conc(x:Qf)(bs:List Qg)(hx:okS (.mk x))(hl:bs.length≤1000)(hb:∀b∈bs,okB b):∃e,KU x bs=some ((),e):=by
 unfold KU;rw[Ab x bs hx (by omega) hb]
 have hw:okSs [.mk x]:=⟨by simp,fun a ha=>by simp at ha;subst ha;exact hx⟩
 by_cases h:(cc bs [.mk x]).2=0
 ·rw[if_pos h];obtain⟨_,h2⟩:=cc_w bs [.mk x] hw h;obtain⟨y,hy,_⟩:=AS (l:=(cc bs [.mk x]).1) (i:=0) (by omega) (by rw[h2];simp)
  rw[hy];exact⟨_,rfl⟩
 ·rw[if_neg h];exact⟨_,rfl⟩
structure Inv (s:Q1) (d:Nat):Prop where
 env:s.fh.length≤d
 envB:∀b∈s.fh,okB b
 con:s.fa.length≤d
 conE:∀e∈s.fa,okE e
 it:0≤s.ff∧s.ff≤65536
 out:s.fu.length≤2048
theorem ok_if(e:Q3)(h:okE (.mk e)):okS (.mk (Zq.mk (4:Int) [] (0:Int) (0:Int) (0:Int) [] e [])):=.mk _ (by simp) (by simp) h (by simp) (by simp)
theorem t_rec6(s:Q1){d:Nat}(hs:Inv s d)(hd:d≤100):wp (Zn s [] s.fa.length 0) (fun r=>(∃l,r= .inl l∧l.length≤100)∨∃e,r= .inr e∧e≠0):=by
 have h1:=hs.con;refine BS (F:=fun l i=>Zn s l s.fa.length i) s.fa.length (fun i l=>(l.length:Int)=i) ?_ ?_ 0 [] (by omega) (by omega) (by simp)
 ·intro l hI;rw[Zn,if_neg (by omega)]
  exact QG.2 (.inl ⟨l,rfl,by omega⟩)
 ·intro i l h0 hi hI ih;have a3:i.toNat<s.fa.length:=by omega
  rw[Zn,if_pos hi,if_pos ⟨h0,hi⟩,cqc a3,omS,bS,bS];have hm:=hs.conE _ (List.getElem_mem a3);obtain⟨e,he⟩:=t_conc (Zq.mk (4:Int) [] (0:Int) (0:Int) (0:Int) [] (s.fa[i.toNat]).f []) s.fh (ok_if _ (by rw[Qc.mk_f];exact hm)) (by have:=hs.env;omega) hs.envB
  rw[he,bS];by_cases h:e=0
  ·rw[if_neg (by simpa using h),if_pos (by omega),bS,ZB (by omega)]
   exact ih _ (by simp;omega)
  ·rw[if_pos (by simpa using h)]
   exact QG.2 (.inr ⟨e,rfl,h⟩)
theorem s_rec21(s:Q1)(k:Int)(hl:s.fh.length≤100):Zi s ⟨k,[]⟩ s.fh.length 0=some ⟨k,s.fh.map (·.fp)⟩:=by
 have L:∀(t p:List Qg),s.fh=p++t→Zi s ⟨k,p.map (·.fp)⟩ s.fh.length p.length=some ⟨k,s.fh.map (·.fp)⟩:=by
  intro t
  induction t with
  |nil=>intro p e;rw[Zi,if_neg (by rw[e];simp)];rw[e];simp
  |cons b t ih=>
   intro p e;have a3:(p.length:Int)< (s.fh.length:Int):=by rw[e];simp;omega
   rw[Zi,if_pos a3,if_pos ⟨by omega,a3⟩]
   rw[show s.fh[(p.length:Int).toNat]? =some b by rw[e,cqm,cqq (Nat.le_refl _)];simp,bS]
   rw[if_pos (by simp;omega),bS,YU (by omega) a3 (by omega)]
   have:=ih (p++[b]) (by rw[e];simp)
   rw[show((p++[b]).length:Int)=(p.length:Int)+1 by simp,List.map_append] at this
   exact this
 exact L s.fh [] rfl
theorem Q9x(s:Q1){d:Nat}(hs:Inv s d)(hd:d≤100)(x:Qf)(hx:okS (.mk x))(a3:List Int)(hw:IsP a3):
  wp (Yo s x a3) (fun r=>(r.1≠0∧r.2=s)∨(r.1=0∧s.fu.length<2048∧r.2= {s with fu:=s.fu++[⟨(VX (keyL a3) s.fj).getD 0,s.fh.map (·.fp)⟩]})):=by
 have a5:=hs.env;rw[Yo];obtain⟨e,he⟩:=t_conc x s.fh hx (by omega) hs.envB
 rw[he,bS];by_cases h:e=0
 ·rw[if_neg (by simpa using h),bS]
  refine Zv.2 (Qj (t_rec6 s hs hd) fun r hr=> ?_)
  rcases hr with⟨l,rfl,hl⟩ | ⟨e',rfl,a4⟩
  ·simp only[KK,VN];rw[dif_pos (by omega),bS,bS,bS,bS]
   by_cases h2:(2048:Int)≤s.fu.length
   ·rw[if_pos h2];exact QG.2 (.inl ⟨by simp,rfl⟩)
   ·rw[if_neg h2,s_key a3 (by have:=hw.1;omega) hw.2,bS,bS,s_rec21 s _ (by omega),bS,if_pos (by simp only[];omega)]
    exact QG.2 (.inr ⟨rfl,by omega,rfl⟩)
  ·exact QG.2 (.inl ⟨a4,rfl⟩)
 ·rw[if_pos (by simpa using h)]
  exact QG.2 (.inl ⟨h,rfl⟩)
def InS:Qf→List Int→List Int→Prop
 |s,[],r=>r=[]
 |s,i::q,r=>∃a:Q0,0≤i∧s.fd[i.toNat]? =some a∧(if s.fOp=1 then ∃v r',r=v::r'∧0≤v∧v<s.fE∧InS a.f q r' else InS a.f q r)
def InB(l:List Q0):List Int→List Int→Prop
 | [],_=>False
 |i::q,r=>∃a:Q0,0≤i∧l[i.toNat]? =some a∧InS a.f q r
def IL:List Int→List Int→Prop
 |a::s,b::t=>a<b∨(a=b∧IL s t)
 |_,_=>False
theorem PI:∀ {E a b:List Int},IL a b→IL (E++a) (E++b)
 | [],_,_,h=>h
 |_::E,_,_,h=>.inr ⟨rfl,PI (E:=E) h⟩
abbrev Ord(o:List QE):Prop:=o.Pairwise fun x y=>x.fM=y.fM→IL x.fAt y.fAt
def At(P:List (List Int))(a3:List Int)(E:List Int)(R:List Int→List Int→Prop)(x:QE):Prop:=∃(j:Nat) (q r:List Int),x.fM=(j:Int)∧P[j]? =some (a3++q)∧x.fAt=E++r∧R q r
def Seg(P:List (List Int))(a3 E:List Int)(R:List Int→List Int→Prop)(o:List QE):Prop:=(∀x∈o,At P a3 E R x)∧Ord o
def Post(s:Q1)(Q:List QE→Prop)(r:Int×Q1):Prop:=
 r.2.fh=s.fh∧r.2.fa=s.fa∧r.2.fj=s.fj∧(r.1=0→(0≤r.2.ff∧r.2.ff≤65536)∧∃o,r.2.fu=s.fu++o∧r.2.fu.length≤2048∧Q o)
theorem Post.err{s:Q1}{Q:List QE→Prop}{r:Int×Q1}(h:r.1≠0)(e:r.2=s):Post s Q r:=⟨by rw[e],by rw[e],by rw[e],fun h'=>absurd h' h⟩
theorem Seg.nil{P:List (List Int)}{a3 E:List Int}{R:List Int→List Int→Prop}:Seg P a3 E R []:=⟨fun x hx=>(by cases hx),.nil⟩
theorem Seg.mono{P:List (List Int)}{a4 a3 E E':List Int}{R R':List Int→List Int→Prop}{o:List QE}(h:Seg P a4 E R o)(k:∀x,At P a4 E R x→At P a3 E' R' x):Seg P a3 E' R' o:=⟨fun x hx=>k x (h.1 x hx),h.2⟩
theorem Seg.app{P:List (List Int)}{a3 E:List Int}{R:List Int→List Int→Prop}{o o':List QE}(h:Seg P a3 E R o)(h':Seg P a3 E R o')(k:∀x∈o,∀y∈o',x.fM=y.fM→IL x.fAt y.fAt):Seg P a3 E R (o++o'):=
 ⟨fun x hx=>by
  rcases cqu.1 hx with hx | hx
  ·exact h.1 x hx
  ·exact h'.1 x hx,List.pairwise_append.2 ⟨h.2,h'.2,k⟩⟩
theorem ix_get{α:Type}{l p t:List α}{a:α}(e:l=p++a::t):l[((p.length:Nat):Int).toNat]? =some a:=by
 rw[e,cqm,cqq (Nat.le_refl _)];simp
theorem Q8r{l:List Qg}(h:∀b∈l,okB b){n:Str}{v:Int}(hv:fits v):∀b∈l++[Qg.mk n v],okB b:=fun b hb=>by
 rcases cqu.1 hb with hb | hb
 ·exact h b hb
 ·simp at hb;subst hb;exact hv
def RL(x:Qf)(v0:Int)(q r:List Int):Prop:=∃v r',r=v::r'∧v0≤v∧v<x.fE∧InB x.fd q r'
theorem s_loop4(P:List (List Int))(x:Qf)(aa:List Int)(d:Nat)(a8:List Qg)(con:List Qc)(nu:List (Str×Int))(hm:1≤x.fE∧x.fE≤65536)
  (he:a8.length≤d) (hd:d≤99) (au:∀b∈a8,okB b) (hc:con.length≤d) (ar:∀e∈con,okE e)
  (ih:∀s,Inv s (d+1)→s.fj=nu→wp (QR s x.fd aa) (Post s (Seg P aa (s.fh.map (·.fp)) (InB x.fd)))):
  ∀(k:Nat) (v:Int) (s:Q1),v+k=x.fE→0≤v→s.fh.take a8.length=a8→s.fa=con→s.fj=nu→0≤s.ff∧s.ff≤65536→s.fu.length≤2048→
   wp (ZT s aa x a8.length x.fE v) (fun r=>(∃s',r= .inl s'∧s'.fh.take a8.length=a8∧s'.fa=con∧s'.fj=nu∧(0≤s'.ff∧s'.ff≤65536)∧∃o,s'.fu=s.fu++o∧s'.fu.length≤2048∧Seg P aa (a8.map (·.fp)) (RL x v) o)∨
    ∃s' e,r= .inr (s',e)∧e≠0∧s'.fh.take a8.length=a8∧s'.fa=con∧s'.fj=nu):=by
 intro k
 induction k with
 |zero=>
  intro v s hv h0 h1 h2 h3 h4 h5;rw[ZT,if_neg (by omega)]
  exact QG.2 (.inl ⟨s,rfl,h1,h2,h3,h4,[],by simp,h5,.nil⟩)
 |succ k ihk=>
  intro v s hv h0 h1 h2 h3 h4 h5;have hw:wr (s.ff+1)=s.ff+1:=ZB (by omega)
  rw[ZT,if_pos (by omega),hw]
  by_cases hit:(65536:Int)<s.ff+1
  ·rw[if_pos hit];exact QG.2 (.inr ⟨_,2,rfl,by decide,h1,h2,h3⟩)
  ·have ag:a8.length≤s.fh.length:=by
    have:=congrArg List.length h1;rw[List.length_take] at this;omega
   have aw:(List.take a8.length s.fh++[Qg.mk x.fc v]).length=a8.length+1:=by rw[h1];simp
   rw[if_neg hit,if_pos ⟨rfl,by omega,by omega⟩]
   simp only[cqm];rw[if_pos ⟨by simpa using ag,by omega,by omega⟩,bS,if_pos aw,bS,h1]
   have ax:fits v:=by unfold fits;omega
   have hI:Inv ⟨s.fj,s.ff+1,a8++[Qg.mk x.fc v],s.fa,s.fu⟩ (d+1):=
    ⟨by simp;omega,Q8r au ax,by simp only[h2];omega,by simp only[h2];exact ar,⟨by simp only[];omega,by simp only[];omega⟩,h5⟩
   refine Zv.2 (Qj (ih _ hI h3) fun r hr=> ?_)
   obtain⟨g1,g2,g3,g4⟩:=hr;simp only at g1 g2 g3 g4;have t1:r.2.fh.take a8.length=a8:=by rw[g1];simp
   by_cases hr0:r.1=0
   ·rw[if_neg (by simpa using hr0),ZB (by omega)]
    obtain⟨g5,o,g6,g7,g8⟩:=g4 hr0;refine Qj (ihk (v+1) r.2 (by omega) (by omega) t1 (by rw[g2,h2]) (by rw[g3,h3]) g5 g7) fun q hq=> ?_
    rcases hq with⟨s',rfl,a1,a2,a3,a4,o',a5,a6,a7⟩ | ⟨s',e,rfl,a1,a2,a3,a4⟩
    ·refine .inl ⟨s',rfl,a1,a2,a3,a4,o++o',by rw[a5,g6];simp,a6,?_⟩
     have b1:Seg P aa (a8.map (·.fp)) (RL x v) o:=g8.mono fun y hy=>by
      obtain⟨j,q,r',c1,c2,c3,c4⟩:=hy;exact⟨j,q,v::r',c1,c2,by rw[c3];simp,v,r',rfl,by omega,by omega,c4⟩
     have b2:Seg P aa (a8.map (·.fp)) (RL x v) o':=a7.mono fun y hy=>by
      obtain⟨j,q,r',c1,c2,c3,v',ai,c4,c5,c6,c7⟩:=hy;exact⟨j,q,r',c1,c2,c3,v',ai,c4,by omega,c6,c7⟩
     refine b1.app b2 fun y hy z hz _=> ?_
     obtain⟨j,q,r',c1,c2,c3,c4⟩:=g8.1 y hy;obtain⟨j',q',r2,d1,d2,d3,v',ai,d4,d5,d6,d7⟩:=a7.1 z hz;rw[c3,d3,d4];simp only[List.map_append,List.map_cons,List.map_nil,List.append_assoc,List.cons_append,List.nil_append];exact PI (.inl (by omega))
    ·exact .inr ⟨s',e,rfl,a1,a2,a3,a4⟩
   ·rw[if_pos (by simpa using hr0)]
    exact QG.2 (.inr ⟨_,_,rfl,hr0,t1,by rw[g2,h2],by rw[g3,h3]⟩)
theorem s_loop(P:List (List Int))(x:Qf)(a8:List Int)(d:Nat)(hd:d≤99)(s:Q1)(hs:Inv s d)(hm:1≤x.fE∧x.fE≤65536)
  (ih:∀s':Q1,Inv s' (d+1)→s'.fj=s.fj→wp (QR s' x.fd a8) (Post s' (Seg P a8 (s'.fh.map (·.fp)) (InB x.fd)))):
  wp (YZ s x a8) (Post s (Seg P a8 (s.fh.map (·.fp)) (RL x 0))):=by
 rw[YZ,bS];refine Zv.2 (Qj (s_loop4 P x a8 d s.fh s.fa s.fj hm hs.env hd hs.envB hs.con hs.conE (fun s' h e=>ih s' h e) x.fE.toNat 0 s (by omega) (by omega) (by simp) rfl rfl hs.it hs.out) fun r hr=> ?_)
 have tk:∀l:List Qg,l.take s.fh.length=s.fh→s.fh.length≤l.length:=fun l h=>by
  have:=congrArg List.length h;rw[List.length_take] at this;omega
 rcases hr with⟨s',rfl,a1,a2,a3,a4,o,a5,a6,a7⟩ | ⟨s',e,rfl,a1,a2,a3,a4⟩
 ·have h1:=tk _ a1;simp only[cqm];rw[if_pos ⟨trivial,by omega,by omega⟩,if_pos (by rw[a1]),bS,a1]
  exact QG.2 ⟨rfl,a2,a3,fun _=>⟨a4,o,a5,a6,a7⟩⟩
 ·have h1:=tk _ a2;simp only[cqm];rw[if_pos ⟨trivial,by omega,by omega⟩,if_pos (by rw[a2]),bS,a2]
  exact QG.2 ⟨rfl,a3,a4,fun h=>absurd h a1⟩
theorem s_guard(P:List (List Int))(x:Qf)(a3:List Int)(d:Nat)(hd:d≤99)(s:Q1)(hs:Inv s d)(hx:okS (.mk x))(hc:GJ x.fo=0)
  (ih:∀s':Q1,Inv s' (d+1)→s'.fj=s.fj→wp (QR s' x.fd a3) (Post s' (Seg P a3 (s'.fh.map (·.fp)) (InB x.fd)))):
  wp (YG s x a3) (Post s (Seg P a3 (s.fh.map (·.fp)) (InB x.fd))):=by
 obtain⟨_,_,he,hb⟩:=hx.of;have hI:Inv s (d+1):=⟨by have:=hs.env;omega,hs.envB,by have:=hs.con;omega,hs.conE,hs.it,hs.out⟩
 have a5:=Po _ he;simp only[Qc.f_mk] at a5;rw[YG,a5,bS];cases hsta:sta (.mk x.fo) with
 |true=>
  rw[if_pos rfl];refine Zv.2 (Qj (Q2p s.fh (by have:=hs.env;omega) hs.envB x.fo he hsta) fun r _=> ?_)
  rw[bS];by_cases h:r.2=0
  ·rw[if_neg (by simpa using h)]
   cases hr:r.1 with
   |true=>
    simp only[if_true,bS,cqk,if_false];refine Zv.2 (Qj (ih s hI rfl) fun q hq=> ?_)
    exact QG.2 hq
   |false=>
    simp only[cqk,if_false,bS,if_true];exact QG.2 ⟨rfl,rfl,rfl,fun _=>⟨hs.it,[],by simp,hs.out,.nil⟩⟩
  ·rw[if_pos (by simpa using h),bS,if_pos rfl]
   exact QG.2 (Post.err h rfl)
 |false=>
  rw[if_neg (by decide),bS,if_pos (by have:=hs.con;omega),bS]
  have a8:Inv ⟨s.fj,s.ff,s.fh,s.fa++[Qc.mk x.fo],s.fu⟩ (d+1):=
   ⟨by have:=hs.env;simp only[];omega,hs.envB,by have:=hs.con;simp;omega,fun e aa=>by
    rcases cqu.1 aa with h | h
    ·exact hs.conE e h
    ·simp at h;subst h;exact he,hs.it,hs.out⟩
  refine Zv.2 (Qj (ih _ a8 rfl) fun r hr=> ?_)
  obtain⟨g1,g2,g3,g4⟩:=hr;simp only at g1 g2 g3 g4;have am:(r.2.fa.length:Int)=s.fa.length+1:=by rw[g2];simp
  have ae:wr ((r.2.fa.length:Int) - 1)=s.fa.length:=by
   have:=hs.con;rw[ZB (by omega)];omega
  have a6:List.take s.fa.length r.2.fa=s.fa:=by rw[g2];simp
  rw[ae];simp only[cqm];rw[if_pos ⟨trivial,by omega,by omega⟩,bS,if_pos (by rw[a6]),bS,a6]
  by_cases hr0:r.1=0
  ·rw[if_neg (by simpa using hr0),bS,bS,bS]
   obtain⟨g5,o,g6,g7,g8⟩:=g4 hr0;have ad:=t_Reads x.fo he hc;have a4:∀b:Bool,wp (if b=true then some ((18:Int),(⟨r.2.fj,r.2.ff,r.2.fh,s.fa,r.2.fu⟩:Q1)) else some ((0:Int),⟨r.2.fj,r.2.ff,r.2.fh,s.fa,r.2.fu⟩)) (Post s (Seg P a3 (s.fh.map (·.fp)) (InB x.fd))):=fun b=>by
    cases b with
    |true=>rw[if_pos rfl];exact QG.2 ⟨g1,rfl,g3,fun h=>by cases h⟩
    |false=>rw[if_neg (by decide)];exact QG.2 ⟨g1,rfl,g3,fun _=>⟨g5,o,g6,g7,g8⟩⟩
   split;·exact a4 true
   ·split
    ·obtain⟨l,hl,ab⟩:=ad;rw[hl,bS];obtain⟨b,a9,_⟩:=Q7h l ab x.fd hb;rw[a9,bS];cases b with
     |true=>exact a4 true
     |false=>exact a4 false
    ·exact a4 false
  ·rw[if_pos (by simpa using hr0)]
   exact QG.2 ⟨g1,rfl,g3,fun h=>absurd h hr0⟩
theorem s_all(P:List (List Int))(hP:∀p∈P,IsP p):∀l,okSs l→∀(d:Nat) (a8:List Int) (s:Q1),(∀a∈l,Gd a)→d+dpL l≤99→a8.length+dpL l≤900→(∀q,StB l q→a8++q∈P)→OV s.fj P→Inv s d→
  wp (QR s l a8) (Post s (Seg P a8 (s.fh.map (·.fp)) (InB l))):=GG fun l hl ih d a8 s hg hd hw bn ab hs=>by
 have ca:=hl.1;have key:∀(t p:List Q0),l=p++t→∀s:Q1,OV s.fj P→Inv s d→
   wp (X5 s a8 l l.length p.length) (fun r=>(∃s',r= .inl s'∧s'.fh=s.fh∧s'.fa=s.fa∧s'.fj=s.fj∧(0≤s'.ff∧s'.ff≤65536)∧∃o,s'.fu=s.fu++o∧s'.fu.length≤2048∧Seg P a8 (s.fh.map (·.fp)) (fun q r=>InB l q r∧∃i q',q=i::q'∧(p.length:Int)≤i) o)∨
    ∃s' e,r= .inr (s',e)∧e≠0∧s'.fh=s.fh∧s'.fa=s.fa∧s'.fj=s.fj):=by
  intro t
  induction t with
  |nil=>
   intro p e s ab hs;rw[X5,if_neg (by rw[e];simp)]
   exact QG.2 (.inl ⟨s,rfl,rfl,rfl,rfl,hs.it,[],by simp,hs.out,.nil⟩)
  |cons a t iht=>
   intro p e s ab hs;have ak:(p.length:Int)< (l.length:Int):=by rw[e];simp;omega
   have ha:a∈l:=by rw[e];simp
   have bf:=Pa ha;rw[dp_f] at bf;have bl:=hl.2 a ha;have b6:=ix_get e;obtain⟨op,hm,hbn,hcd,hgb⟩:(a.f.fOp=1∨a.f.fOp=2∨a.f.fOp=3∨a.f.fOp=4)∧(a.f.fOp=1→1≤a.f.fE∧a.f.fE≤65536)∧(a.f.fOp=2∨a.f.fOp=3→a.f.fd=[])∧(a.f.fOp=4→GJ a.f.fo=0)∧∀b∈a.f.fd,Gd b:=by
    cases hg a ha with
    |mk x h1 h2 h3 h4 h5=>exact⟨h1,h2,h3,h4,h5⟩
   have am:okS (.mk a.f):=by rw[Q0.mk_f];exact bl
   have an:∀q,StA a.f q→(a8++[(p.length:Int)])++q∈P:=fun q hq=>by
    have:=bn ((p.length:Int)::q) ⟨a,by omega,b6,hq⟩
    simpa using this
   have ag:∀s':Q1,Inv s' (d+1)→s'.fj=s.fj→wp (QR s' a.f.fd (a8++[(p.length:Int)])) (Post s' (Seg P (a8++[(p.length:Int)]) (s'.fh.map (·.fp)) (InB a.f.fd))):=fun s' bm bk=>
    ih a ha (d+1) (a8++[(p.length:Int)]) s' hgb (by omega) (by simp;omega) (fun q hq=>by
     cases q with
     |nil=>exact absurd hq id
     |cons i q=>exact an (i::q) hq) (by rw[bk];exact ab) bm
   have b7:wp ((if(a.f.fOp==(1:Int))=true then YZ s a.f (a8++[(p.length:Int)])>>=fun v5=>some (v5.snd,v5.fst) else if(a.f.fOp==(4:Int))=true then YG s a.f (a8++[(p.length:Int)])>>=fun v6=>some (v6.snd,v6.fst) else Yo s a.f (a8++[(p.length:Int)])>>=fun v7=>some (v7.snd,v7.fst)):Option (Q1×Int))
     (fun r=>Post s (Seg P (a8++[(p.length:Int)]) (s.fh.map (·.fp)) (InS a.f)) (r.2,r.1)):=by
    by_cases h1:a.f.fOp=1
    ·rw[if_pos (by simpa using h1)]
     refine Zv.2 (Qj (s_loop P a.f _ d (by omega) s hs (hm h1) ag) fun r hr=> ?_)
     obtain⟨g1,g2,g3,g4⟩:=hr;refine QG.2 ⟨g1,g2,g3,fun h=> ?_⟩
     obtain⟨g5,o,g6,g7,g8⟩:=g4 h;refine⟨g5,o,g6,g7,g8.mono fun x hx=> ?_⟩
     obtain⟨j,q,r',c1,c2,c3,v,bo,c4,c5,c6,c7⟩:=hx;refine⟨j,q,r',c1,c2,c3,?_⟩;cases q with
     |nil=>exact absurd c7 id
     |cons i q=>
      obtain⟨b,b1,b2,b3⟩:=c7;exact⟨b,b1,b2,by rw[if_pos h1];exact⟨v,bo,c4,c5,c6,b3⟩⟩
    ·rw[if_neg (by simpa using h1)]
     by_cases h4:a.f.fOp=4
     ·rw[if_pos (by simpa using h4)]
      refine Zv.2 (Qj (s_guard P a.f _ d (by omega) s hs am (hcd h4) ag) fun r hr=> ?_)
      obtain⟨g1,g2,g3,g4⟩:=hr;refine QG.2 ⟨g1,g2,g3,fun h=> ?_⟩
      obtain⟨g5,o,g6,g7,g8⟩:=g4 h;refine⟨g5,o,g6,g7,g8.mono fun x hx=> ?_⟩
      obtain⟨j,q,r',c1,c2,c3,c4⟩:=hx;refine⟨j,q,r',c1,c2,c3,?_⟩;cases q with
      |nil=>exact absurd c4 id
      |cons i q=>
       obtain⟨b,b1,b2,b3⟩:=c4;exact⟨b,b1,b2,by rw[if_neg h1];exact b3⟩
     ·rw[if_neg (by simpa using h4)]
      have aa:=an [] (show a.f.fOp=2∨a.f.fOp=3 by omega)
      rw[List.append_nil] at aa;refine Zv.2 (Qj (Q9x s hs (by omega) a.f am _ (hP _ aa)) fun r hr=> ?_)
      refine QG.2 ?_;rcases hr with⟨h,e'⟩ | ⟨h,c9,e'⟩
      ·exact Post.err h e'
      ·obtain⟨j,hj,bh⟩:=ab _ aa;rw[hj] at e';have e2:r.2=⟨s.fj,s.ff,s.fh,s.fa,s.fu++[⟨(j:Int),s.fh.map (·.fp)⟩]⟩:=e';refine⟨by simp[e2],by simp[e2],by simp[e2],fun _=>⟨by simp only[e2];exact hs.it,[⟨(j:Int),s.fh.map (·.fp)⟩],by simp[e2],by simp[e2];omega,?_,by simp⟩⟩
       intro x hx;simp at hx;subst hx;exact⟨j,[],[],rfl,by simpa using bh,by simp,rfl⟩
   rw[X5,if_pos ak,Vo e,omS,bS,Q3s _ (by omega),bS,if_pos (by omega),bS,bS]
   refine Zv.2 (Qj b7 fun r hr=> ?_)
   obtain⟨g1,g2,g3,g4⟩:=hr;simp only at g1 g2 g3 g4;by_cases hr0:r.2=0
   ·rw[if_neg (by simpa using hr0),YU (by omega) ak (by omega)]
    obtain⟨g5,o,g6,g7,g8⟩:=g4 hr0;have be:Inv r.1 d:=⟨by rw[g1];exact hs.env,by rw[g1];exact hs.envB,by rw[g2];exact hs.con,by rw[g2];exact hs.conE,g5,g7⟩
    have:=iht (p++[a]) (by rw[e];simp) r.1 (by rw[g3];exact ab) be
    rw[show((p++[a]).length:Int)=(p.length:Int)+1 by simp] at this
    refine Qj this fun q hq=> ?_
    have b1:Seg P a8 (s.fh.map (·.fp)) (fun q r=>InB l q r∧∃i q',q=i::q'∧(p.length:Int)≤i) o:=g8.mono fun x hx=>by
     obtain⟨j,q,r',c1,c2,c3,c4⟩:=hx;exact⟨j,(p.length:Int)::q,r',c1,by simpa using c2,c3,⟨a,by omega,b6,c4⟩,_,_,rfl,by omega⟩
    rcases hq with⟨s',rfl,a1,a2,a3,a4,o',a5,a6,a7⟩ | ⟨s',e',rfl,a1,a2,a3,a4⟩
    ·refine .inl ⟨s',rfl,by rw[a1,g1],by rw[a2,g2],by rw[a3,g3],a4,o++o',by rw[a5,g6];simp,a6,?_⟩
     rw[g1] at a7;have b2:Seg P a8 (s.fh.map (·.fp)) (fun q r=>InB l q r∧∃i q',q=i::q'∧(p.length:Int)≤i) o':=a7.mono fun x hx=>by
      obtain⟨j,q,r',c1,c2,c3,c4,i,q',c5,c6⟩:=hx;exact⟨j,q,r',c1,c2,c3,c4,i,q',c5,by omega⟩
     refine b1.app b2 fun y hy z hz ce=> ?_
     exfalso;obtain⟨j,q,r',c1,c2,c3,c4⟩:=g8.1 y hy;obtain⟨j',q',r2,d1,d2,d3,d4,i,q2,d5,d6⟩:=a7.1 z hz;have hj:j=j':=by omega
     subst hj;rw[c2] at d2;have:=Option.some.inj d2;rw[List.append_assoc] at this;have:=List.append_cancel_left this;rw[d5] at this;simp at this;omega
    ·exact .inr ⟨s',e',rfl,a1,by rw[a2,g1],by rw[a3,g2],by rw[a4,g3]⟩
   ·rw[if_pos (by simpa using hr0)]
    exact QG.2 (.inr ⟨r.1,r.2,rfl,hr0,g1,g2,g3⟩)
 have:=key l [] rfl s ab hs;rw[show(([]:List Q0).length:Int)=0 from rfl] at this;rw[QR,bS,bS];refine Zv.2 (Qj this fun r hr=> ?_)
 rcases hr with⟨s',rfl,a1,a2,a3,a4,o,a5,a6,a7⟩ | ⟨s',e,rfl,a1,a2,a3,a4⟩
 ·exact QG.2 ⟨a1,a2,a3,fun _=>⟨a4,o,a5,a6,a7.mono fun x hx=>by
   obtain⟨j,q,r',c1,c2,c3,c4,_⟩:=hx;exact⟨j,q,r',c1,c2,c3,c4⟩⟩⟩
 ·exact QG.2 ⟨a2,a3,a4,fun h=>absurd h a1⟩
end Go.Proofs.YtkgphhemcglgnaaGreatDoor
