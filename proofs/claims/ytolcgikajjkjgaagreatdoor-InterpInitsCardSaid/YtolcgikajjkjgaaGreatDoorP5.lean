/- Proved in the last of these texts: for every input the law returns true and its arguments read afterwards as they read before. This text: a part of the proof. -/
import Derived.Test.YtolcgikajjkjgaaGreatDoorP4
set_option linter.unusedVariables false
set_option linter.unusedSimpArgs false
noncomputable section
namespace Go.Proofs.YtolcgikajjkjgaaGreatDoor
open Go HY
set_option maxRecDepth 1000000
set_option linter.unusedVariables false
def K0(s:((List Qe)×Int))(u:Int)(o:Unit ⊕ Bool):List Alt:=[⟨fun(x:Unit)=>(Sum.inl x:Unit ⊕ Bool)=o,.exit 0,fun x=>[.undef],fun x=>[]⟩,⟨fun(x:Bool)=>(Sum.inr x:Unit ⊕ Bool)=o,.ret,fun x=>[.bool x],fun x=>[]⟩]
def KP(s:((List Qe)×Int×Int))(u:Int)(o:Bool):List Alt:=jb o (fun b=>[.sl 20 (List.map Qh (s.1)),ii (s.2.1),ii (s.2.2),ii u,.bool b]) []
mutual
def Yq(x0:List Qe)(x1:Int):Option Bool:=
 some (List.length x0:Int)>>=fun v0=>
 some v0>>=fun v1=>
 ZM x0 x1 v0 (0:Int)>>=fun v2=>(match v2 with
 | (.inl v3)=>
 some true
 | (.inr v4)=>
 some v4)
 partial_fixpoint
def ZM(x0:List Qe)(x1:Int)(x7:Int)(x8:Int):Option (Unit ⊕ Bool):=
 if x8<x7 then
 some x8>>=fun v0=>
 (if x1< (1:Int) then
 some true
 else
 Option.map Qe.f (ix x0 x8)>>=fun v2=>
 Yq v2.fBody (wr (x1 - (1:Int)))>>=fun v3=>if v3 then
 some false
 else
 some true)>>=fun v1=>if v1 then
 some (.inr false)
 else
 ZM x0 x1 x7 (wr (v0+(1:Int)))
 else
 some (.inl ())
 partial_fixpoint
end
theorem Hh:(∀(x0:List Qe) (x1:Int) (r:Bool),Yq x0 x1=some r→PU 44 [X8 x0,eI x1] (eB r))∧(∀(x0:List Qe) (x1:Int) (x7:Int) (x8:Int) (o:Unit ⊕ Bool),ZM x0 x1 x7 x8=some o→LO 44 2 25 [0,1,7,8] [.sl 20 (List.map Qh x0),ii x1,ii x7,ii x8] [] [4] (K0 (x0,x1) x7 o)):=
 Yq.mutual_partial_correctness (fun x0 x1 r=>PU 44 [X8 x0,eI x1] (eB r)) (fun x0 x1 x7 x8 o=>LO 44 2 25 [0,1,7,8] [.sl 20 (List.map Qh x0),ii x1,ii x7,ii x8] [] [4] (K0 (x0,x1) x7 o))
 (fun ZM Q5g x0 x1 r h=>
 Pu2 (hs:=[(7,.n eI 7 none),(3000003,.l [] [0,1,7,8] [] [4] [] (K0 (x0,x1)))]) ((kN _ (mLen (sh:=Qh) x0) fun v0=>(kL2 v0 (hL:=(Q5g x0 x1 v0 (0:Int))) (hA:=fun v1 v3=>(kEr (enc:=eB) true))
 (hB:=fun v1 v4=>(kEr (enc:=eB) v4)))) h))
 (fun Yq ZM Q5f Q5g x0 x1 x7 x8 o h=>
 Lp2 (hs:=[(9,.split),(12,.split),(16,.e Qx),(21,.cb),(5000004,.l [] [] [] [0,1,7,8,23] [] (KP (x0,x1,x7)))]) (kb:=[]) (kbx:=[]) ((kIfD (p:=x8<x7) (kJb (id:=5000004) x8 (fun v0 a7 v1=>(kIfD (p:=x1< (1:Int)) (kXj (alts:=KP (x0,x1,x7)) a7 true (.here () rfl (.refl _) (.refl _)))
 (kIxR (l:=x0) (k:=x8) Yu fun v2=>(kCb (Q5f v2.fBody (wr (x1 - (1:Int)))) (kXj (alts:=KP (x0,x1,x7)) a7 false (.next (.here () rfl (.refl _) (.refl _))))
 (kXj (alts:=KP (x0,x1,x7)) a7 true (.here () rfl (.refl _) (.refl _)))))))
 (fun v0=>(kX (alts:=K0 (x0,x1) x7) (.inr false) (.next (.here _ rfl (.refl _) (.refl _)))))
 (fun v0=>(kM0 (alts:=K0 (x0,x1) x7) (Q5g x0 x1 x7 (wr (v0+(1:Int)))))))
 (kX (alts:=K0 (x0,x1) x7) (.inl ()) (.here _ rfl (.refl _) (.refl _)))) h))
theorem EL(x0:List Qe)(x1:Int)(r:Bool)(h:Yq x0 x1=some r):PU 44 [X8 x0,eI x1] (eB r):=(Hh).1 x0 x1 r h
def XW(s:((List Qe)×Int))(u:Int)(o:Int):List Alt:=[⟨fun(x:Int)=>x=o,.exit 0,fun x=>[ii x],fun x=>[]⟩]
mutual
def Xb(x0:List Qe)(x1:Int):Option Int:=
 some (List.length x0:Int)>>=fun v0=>
 some (v0:Int)>>=fun v1=>
 some (List.length x0:Int)>>=fun v2=>
 some v2>>=fun v3=>
 Zt x0 x1 v1 v2 (0:Int)>>=fun v5=>
 some v5
 partial_fixpoint
def Zt(x0:List Qe)(x1:Int)(x5:Int)(a4:Int)(a3:Int):Option Int:=
 if a3<a4 then
 if x1<x5 then
 some x5
 else
 Option.map Qe.f (ix x0 a3)>>=fun v0=>
 Xb v0.fBody (wr (x1 - x5))>>=fun v1=>
 some (wr (x5+v1):Int)>>=fun v2=>
 Zt x0 x1 v2 a4 (wr (a3+(1:Int)))
 else
 some x5
 partial_fixpoint
end
theorem Lw:(∀(x0:List Qe) (x1:Int) (r:Int),Xb x0 x1=some r→PU 45 [X8 x0,eI x1] (eI r))∧(∀(x0:List Qe) (x1:Int) (x5:Int) (a3:Int) (a6:Int) (o:Int),Zt x0 x1 x5 a3 a6=some o→LO 45 3 30 [0,1,5,10,11] [.sl 20 (List.map Qh x0),ii x1,ii x5,ii a3,ii a6] [] [5] (XW (x0,x1) a3 o)):=
 Xb.mutual_partial_correctness (fun x0 x1 r=>PU 45 [X8 x0,eI x1] (eI r)) (fun x0 x1 x5 a3 a6 o=>LO 45 3 30 [0,1,5,10,11] [.sl 20 (List.map Qh x0),ii x1,ii x5,ii a3,ii a6] [] [5] (XW (x0,x1) a3 o))
 (fun Zt Q5e x0 x1 r h=>
 Pu2 (hs:=[(8,.n eI 8 none),(10,.n eI 10 none),(5,.n eI 5 none),(3000004,.l [] [0,1,5,10,11] [] [5] [] (XW (x0,x1)))]) ((kN _ (mLen (sh:=Qh) x0) fun v0=>(kN v0 rfl fun v1=>(kN _ (mLen (sh:=Qh) x0) fun v2=>(kL1 v2 (Q5e x0 x1 v1 v2 (0:Int)) fun v3 v5=>(kEr (enc:=eI) v5))))) h))
 (fun Xb Zt Q5d Q5e x0 x1 x5 a3 a6 o h=>
 Lp2 (hs:=[(12,.split),(16,.split),(20,.e Qx),(26,.c eI),(5,.n eI 5 none)]) (kb:=[]) (kbx:=[]) ((kIfD (p:=a6<a3) (kIfD (p:=x1<x5) (kX (alts:=XW (x0,x1) a3) x5 (.here _ rfl (.refl _) (.refl _)))
 (kIxR (l:=x0) (k:=a6) Yu fun v0=>(kC (sh:=eI) (Q5d v0.fBody (wr (x1 - x5))) fun v1=>(kN (wr (x5+v1)) rfl fun v2=>(kM0 (alts:=XW (x0,x1) a3) (Q5e x0 x1 v2 a3 (wr (a6+(1:Int)))))))))
 (kX (alts:=XW (x0,x1) a3) x5 (.here _ rfl (.refl _) (.refl _)))) h))
theorem I7(x0:List Qe)(x1:Int)(r:Int)(h:Xb x0 x1=some r):PU 45 [X8 x0,eI x1] (eI r):=(Lw).1 x0 x1 r h
def Gy(x0:Int):Option Bool:=
 if(97:Int)≤x0 then
 some (decide (x0≤(122:Int)))
 else
 some false
theorem Lx(x0:Int)(r:Bool)(h:Gy x0=some r):PU 91 [eI32 x0] (eB r):=
 Pu2 (hs:=[(4,.split)]) ((kIfD (p:=(97:Int)≤x0) (kEr (enc:=eB) (decide (x0≤(122:Int))))
 (kEr (enc:=eB) false)) h)
def NY(x0:Int):Option Bool:=
 if(48:Int)≤x0 then
 some (decide (x0≤(57:Int)))
 else
 some false
theorem AO(x0:Int)(r:Bool)(h:NY x0=some r):PU 116 [eI32 x0] (eB r):=
 Pu2 (hs:=[(4,.split)]) ((kIfD (p:=(48:Int)≤x0) (kEr (enc:=eB) (decide (x0≤(57:Int))))
 (kEr (enc:=eB) false)) h)
def DX(x0:Int):Option Bool:=
 Gy x0>>=fun v0=>if v0 then
 some true
 else
 NY x0>>=fun v1=>if v1 then
 some true
 else
 some (x0==(95:Int))
theorem Sr(x0:Int)(r:Bool)(h:DX x0=some r):PU 93 [eI32 x0] (eB r):=
 Pu2 (hs:=[(4,.cb),(7,.cb)]) ((kCb (Lx x0) (kEr (enc:=eB) true)
 (kCb (AO x0) (kEr (enc:=eB) true)
 (kEr (enc:=eB) (x0==(95:Int))))) h)
def VD(s:Str)(u:Unit)(o:Int):List Alt:=[⟨fun(x:Int)=>x=o,.exit 0,fun x=>[ii x],fun x=>[]⟩]
def V3(s:Str)(u:Int)(o:Bool):List Alt:=jb o (fun b=>[.str s,.fn 93 [],ii u,.bool b]) []
def ZY(x0:Str)(x5:Int):Option Int:=
 some x5>>=fun v0=>
 (if x5< (↑(List.length x0):Int) then
 ix x0 x5>>=fun v2=>
 DX (IntKind.i32.wrap (↑v2.toNat:Int))>>=fun v3=>if v3 then
 some true
 else
 some false
 else
 some false)>>=fun v1=>if v1 then
 ZY x0 (wr (v0+(1:Int)))
 else
 some v0
 partial_fixpoint
theorem IZ(x0:Str)(x5:Int)(o:Int)(h:ZY x0 x5=some o):LO 92 2 21 [0,1,5] [.str x0,.fn 93 [],ii x5] [] [5] (VD x0 () o):=
 ZY.partial_correctness x0 (fun x5 o=>LO 92 2 21 [0,1,5] [.str x0,.fn 93 [],ii x5] [] [5] (VD x0 () o))
 (fun ZY Q52 x5 o h=>
 Lp2 (hs:=[(9,.split),(14,.u),(16,.cb),(5000002,.l [] [] [] [0,1,5,17] [] (V3 x0))]) (kb:=[]) (kbx:=[]) ((kJb (id:=5000002) x5 (fun v0 a5 v1=>(kIfD (p:=x5< (↑(List.length x0):Int)) (kU (s:=x0) (k:=x5) fun v2=>(kCb (Sr (IntKind.i32.wrap (↑v2.toNat:Int))) (kXj (alts:=V3 x0) a5 true (.here () rfl (.refl _) (.refl _)))
 (kXj (alts:=V3 x0) a5 false (.next (.here () rfl (.refl _) (.refl _))))))
 (kXj (alts:=V3 x0) a5 false (.next (.here () rfl (.refl _) (.refl _))))))
 (fun v0=>(kM0 (alts:=VD x0 ()) (Q52 (wr (v0+(1:Int))))))
 (fun v0=>(kX (alts:=VD x0 ()) v0 (.here _ rfl (.refl _) (.refl _))))) h)) x5 o h
def GM(x0:Str):Option Int:=
 some ()>>=fun v0=>
 ZY x0 (0:Int)>>=fun v2=>
 some v2
theorem Rj(x0:Str)(r:Int)(h:GM x0=some r):PU 92 [eS x0,.fn 93 []] (eI r):=
 Pu2 (hs:=[(3000003,.l [] [0,1,5] [] [5] [] (VD x0))]) ((kL1 () (IZ x0 (0:Int)) fun v0 v2=>(kEr (enc:=eI) v2)) h)
def XN(s:((List Str)×Str))(u:Int)(o:Unit ⊕ Int):List Alt:=[⟨fun(x:Unit)=>(Sum.inl x:Unit ⊕ Int)=o,.exit 0,fun x=>[.undef],fun x=>[]⟩,⟨fun(x:Int)=>(Sum.inr x:Unit ⊕ Int)=o,.ret,fun x=>[ii x],fun x=>[]⟩]
def Zo(x0:List Str)(x1:Str)(x7:Int)(x8:Int):Option (Unit ⊕ Int):=
 if x8<x7 then
 ix x0 x8>>=fun v0=>
 if x1==v0 then
 some (.inr x8)
 else
 Zo x0 x1 x7 (wr (x8+(1:Int)))
 else
 some (.inl ())
 partial_fixpoint
theorem MI(x0:List Str)(x1:Str)(x7:Int)(x8:Int)(o:Unit ⊕ Int)(h:Zo x0 x1 x7 x8=some o):LO 140 2 19 [0,1,7,8] [.sl 1 (List.map eS x0),.str x1,ii x7,ii x8] [] [4] (XN (x0,x1) x7 o):=
 Zo.partial_correctness x0 x1 x7 (fun x8 o=>LO 140 2 19 [0,1,7,8] [.sl 1 (List.map eS x0),.str x1,ii x7,ii x8] [] [4] (XN (x0,x1) x7 o))
 (fun Zo Q73 x8 o h=>
 Lp2 (hs:=[(9,.split),(14,.e eS),(16,.split)]) (kb:=[]) (kbx:=[]) ((kIfD (p:=x8<x7) (kIx (enc:=eS) (l:=x0) (k:=x8) fun v0=>(kIf (c:=x1==v0) (kX (alts:=XN (x0,x1) x7) (.inr x8) (.next (.here _ rfl (.refl _) (.refl _))))
 (kM0 (alts:=XN (x0,x1) x7) (Q73 (wr (x8+(1:Int)))))))
 (kX (alts:=XN (x0,x1) x7) (.inl ()) (.here _ rfl (.refl _) (.refl _)))) h)) x8 o h
def GA(x0:List Str)(x1:Str):Option Int:=
 some (List.length x0:Int)>>=fun v0=>
 some v0>>=fun v1=>
 Zo x0 x1 v0 (0:Int)>>=fun v2=>(match v2 with
 | (.inl v3)=>
 some (-1:Int)
 | (.inr v4)=>
 some v4)
theorem LB(x0:List Str)(x1:Str)(r:Int)(h:GA x0 x1=some r):PU 140 [eLS x0,eS x1] (eI r):=
 Pu2 (hs:=[(7,.n eI 7 none),(3000003,.l [] [0,1,7,8] [] [4] [] (XN (x0,x1)))]) ((kN _ (mLen (sh:=eS) x0) fun v0=>(kL2 v0 (hL:=(MI x0 x1 v0 (0:Int))) (hA:=fun v1 v3=>(kEr (enc:=eI) (-1:Int)))
 (hB:=fun v1 v4=>(kEr (enc:=eI) v4)))) h)
def XP(x0:List Str)(x1:Str):Option Bool:=
 GA x0 x1>>=fun v0=>
 some (decide ((0:Int)≤v0))
theorem Uy(x0:List Str)(x1:Str)(r:Bool)(h:XP x0 x1=some r):PU 117 [eLS x0,eS x1] (eB r):=
 Pu2 (hs:=[(7,.c eI)]) ((kC (sh:=eI) (LB x0 x1) fun v0=>(kEr (enc:=eB) (decide ((0:Int)≤v0)))) h)
def Cp(x0:Str):Option Bool:=
 W7>>=fun v0=>
 XP v0 x0>>=fun v1=>
 some v1
theorem EH(x0:Str)(r:Bool)(h:Cp x0=some r):PU 94 [eS x0] (eB r):=
 Pu2 (hs:=[(3,.c eLS),(5,.c eB)]) ((kC (sh:=eLS) (Ri) fun v0=>(kC (sh:=eB) (Uy v0 x0) fun v1=>(kEr (enc:=eB) v1))) h)
def VU(x0:Str):Option Bool:=
 if !x0==[] then
 if(↑(List.length x0):Int)≤(16:Int) then
 ix x0 (0:Int)>>=fun v0=>
 Gy (IntKind.i32.wrap (↑v0.toNat:Int))>>=fun v1=>if v1 then
 GM x0>>=fun v2=>
 if v2==(↑(List.length x0):Int) then
 Cp x0>>=fun v3=>
 some (!v3)
 else
 some false
 else
 some false
 else
 some false
 else
 some false
theorem C5(x0:Str)(r:Bool)(h:VU x0=some r):PU 73 [eS x0] (eB r):=
 Pu2 (hs:=[(4,.split),(8,.split),(12,.u),(14,.cb),(18,.c eI),(21,.split),(25,.c eB)]) ((kIf (c:= !x0==[]) (kIfD (p:=(↑(List.length x0):Int)≤(16:Int)) (kU (s:=x0) (k:=(0:Int)) fun v0=>(kCb (Lx (IntKind.i32.wrap (↑v0.toNat:Int))) (kC (sh:=eI) (Rj x0) fun v2=>(kIf (c:=v2==(↑(List.length x0):Int)) (kC (sh:=eB) (EH x0) fun v3=>(kEr (enc:=eB) (!v3)))
 (kEr (enc:=eB) false)))
 (kEr (enc:=eB) false)))
 (kEr (enc:=eB) false))
 (kEr (enc:=eB) false)) h)
def Ua(x0:Q9)(x1:Q9):Option Bool:=
 some (x0.fName==x1.fName)
theorem M9(x0:Q9)(x1:Q9)(r:Bool)(h:Ua x0 x1=some r):PU 75 [Q5 x0,.ip 8 [.agg [.str x1.fName,ii x1.fType.fKind,ii x1.fType.fBits,ii x1.fType.fFrac,ii x1.fType.fRound,ii x1.fType.fOver,.sl 1 (List.map eI x1.fDims),ii x1.fUse]] 0 0] (eB r):=
 Pu2 (hs:=[]) ((kEr (enc:=eB) (x0.fName==x1.fName)) h)
def Za(s:((List Q9)×Q9))(u:Int)(o:Unit ⊕ Int):List Alt:=[⟨fun(x:Unit)=>(Sum.inl x:Unit ⊕ Int)=o,.exit 0,fun x=>[.undef],fun x=>[]⟩,⟨fun(x:Int)=>(Sum.inr x:Unit ⊕ Int)=o,.ret,fun x=>[ii x],fun x=>[]⟩]
def QS(x0:List Q9)(x1:Q9)(x7:Int)(x8:Int):Option (Unit ⊕ Int):=
 if x8<x7 then
 ix x0 x8>>=fun v0=>
 Ua v0 x1>>=fun v1=>if v1 then
 some (.inr x8)
 else
 QS x0 x1 x7 (wr (x8+(1:Int)))
 else
 some (.inl ())
 partial_fixpoint
theorem DD(x0:List Q9)(x1:Q9)(x7:Int)(x8:Int)(o:Unit ⊕ Int)(h:QS x0 x1 x7 x8=some o):LO 95 2 19 [0,1,7,8] [.sl 8 (List.map Q5 x0),.fn 75 [.ip 8 [.agg [.str x1.fName,ii x1.fType.fKind,ii x1.fType.fBits,ii x1.fType.fFrac,ii x1.fType.fRound,ii x1.fType.fOver,.sl 1 (List.map eI x1.fDims),ii x1.fUse]] 0 0],ii x7,ii x8] [] [4] (Za (x0,x1) x7 o):=
 QS.partial_correctness x0 x1 x7 (fun x8 o=>LO 95 2 19 [0,1,7,8] [.sl 8 (List.map Q5 x0),.fn 75 [.ip 8 [.agg [.str x1.fName,ii x1.fType.fKind,ii x1.fType.fBits,ii x1.fType.fFrac,ii x1.fType.fRound,ii x1.fType.fOver,.sl 1 (List.map eI x1.fDims),ii x1.fUse]] 0 0],ii x7,ii x8] [] [4] (Za (x0,x1) x7 o))
 (fun QS Q6w x8 o h=>
 Lp2 (hs:=[(9,.split),(14,.e Q5),(16,.cb)]) (kb:=[]) (kbx:=[]) ((kIfD (p:=x8<x7) (kIx (enc:=Q5) (l:=x0) (k:=x8) fun v0=>(kCb (M9 v0 x1) (kX (alts:=Za (x0,x1) x7) (.inr x8) (.next (.here _ rfl (.refl _) (.refl _))))
 (kM0 (alts:=Za (x0,x1) x7) (Q6w (wr (x8+(1:Int)))))))
 (kX (alts:=Za (x0,x1) x7) (.inl ()) (.here _ rfl (.refl _) (.refl _)))) h)) x8 o h
def KC(x0:List Q9)(x1:Q9):Option Int:=
 some (List.length x0:Int)>>=fun v0=>
 some v0>>=fun v1=>
 QS x0 x1 v0 (0:Int)>>=fun v2=>(match v2 with
 | (.inl v3)=>
 some (-1:Int)
 | (.inr v4)=>
 some v4)
theorem CD(x0:List Q9)(x1:Q9)(r:Int)(h:KC x0 x1=some r):PU 95 [NM x0,.fn 75 [.ip 8 [.agg [.str x1.fName,ii x1.fType.fKind,ii x1.fType.fBits,ii x1.fType.fFrac,ii x1.fType.fRound,ii x1.fType.fOver,.sl 1 (List.map eI x1.fDims),ii x1.fUse]] 0 0]] (eI r):=
 Pu2 (hs:=[(7,.n eI 7 none),(3000003,.l [] [0,1,7,8] [] [4] [] (Za (x0,x1)))]) ((kN _ (mLen (sh:=Q5) x0) fun v0=>(kL2 v0 (hL:=(DD x0 x1 v0 (0:Int))) (hA:=fun v1 v3=>(kEr (enc:=eI) (-1:Int)))
 (hB:=fun v1 v4=>(kEr (enc:=eI) v4)))) h)
def Xf(x0:List Q9)(x1:Q9):Option Bool:=
 KC x0 x1>>=fun v0=>
 some (decide ((0:Int)≤v0))
theorem Dz(x0:List Q9)(x1:Q9)(r:Bool)(h:Xf x0 x1=some r):PU 74 [NM x0,.fn 75 [.ip 8 [.agg [.str x1.fName,ii x1.fType.fKind,ii x1.fType.fBits,ii x1.fType.fFrac,ii x1.fType.fRound,ii x1.fType.fOver,.sl 1 (List.map eI x1.fDims),ii x1.fUse]] 0 0]] (eB r):=
 Pu2 (hs:=[(7,.c eI)]) ((kC (sh:=eI) (CD x0 x1) fun v0=>(kEr (enc:=eB) (decide ((0:Int)≤v0)))) h)
def M0(x0:Q6):Option Bool:=
 some ((Q6.mk x0.fKind (0:Int) (0:Int) (0:Int) (0:Int)))>>=fun v0=>
 some (x0.fKind==v0.fKind&& (x0.fBits==v0.fBits&& (x0.fFrac==v0.fFrac&& (x0.fRound==v0.fRound&& (x0.fOver==v0.fOver&&true)))))
theorem F0(x0:Q6)(r:Bool)(h:M0 x0=some r):PU 85 [Qc x0] (eB r):=
 Pu2 (hs:=[(6,.n Qc 6 none)]) ((kW (sh:=Qc) (Q6.mk x0.fKind (0:Int) (0:Int) (0:Int) (0:Int)) lr fun v0=>(kEr (enc:=eB) (x0.fKind==v0.fKind&& (x0.fBits==v0.fBits&& (x0.fFrac==v0.fFrac&& (x0.fRound==v0.fRound&& (x0.fOver==v0.fOver&&true))))))) h)
def Xt(s:Q6)(u:Unit)(o:Bool):List Alt:=[⟨fun(x:Bool)=>x=o,.normal,fun x=>[.ptr 0 0 0,.bool x],fun x=>[.cells 0 (Qc s).cells]⟩]
def Z5(s:Unit)(u:Unit)(o:Bool):List Alt:=jb o (fun b=>[.bool b]) []
def K6(x0:Q6):Option Int:=
 some ()>>=fun v0=>
 (if(1:Int)≤x0.fRound then
 if x0.fRound≤(4:Int) then
 if x0.fOver==(1:Int) then
 some true
 else
 some (x0.fOver==(2:Int))
 else
 some false
 else
 some false)>>=fun v2=>
 some ()>>=fun v3=>
 (if x0.fKind !=(2:Int) then
 some true
 else
 if x0.fBits< (2:Int) then
 some true
 else
 if(31:Int)<x0.fBits then
 some true
 else
 if x0.fFrac< (0:Int) then
 some true
 else
 if(30:Int)<x0.fFrac then
 some true
 else
 if v2 then
 some false
 else
 some true)>>=fun v4=>if v4 then
 some (10:Int)
 else
 some (0:Int)
theorem WN(x0:Q6)(r:Int)(h:K6 x0=some r):PU 86 [Qc x0] (eI r):=
 Pu2 (hs:=[(6,.split),(10,.split),(15,.split),(24,.split),(28,.split),(33,.split),(38,.split),(43,.split),(46,.split),(5000001,.l [] [] [] [1,3] [kk 1] (Xt x0)),(5000002,.l [] [] [] [48] [] (Z5 ()))]) ((kJ1 (id:=5000001) () (fun v0 a5 v1=>(kIfD (p:=(1:Int)≤x0.fRound) (kIfD (p:=x0.fRound≤(4:Int)) (kIf (c:=x0.fOver==(1:Int)) (kXj (alts:=Xt x0) a5 true (.here _ rfl (.refl _) (.refl _)))
 (kXj (alts:=Xt x0) a5 (x0.fOver==(2:Int)) (.here _ rfl (.refl _) (.refl _))))
 (kXj (alts:=Xt x0) a5 false (.here _ rfl (.refl _) (.refl _))))
 (kXj (alts:=Xt x0) a5 false (.here _ rfl (.refl _) (.refl _)))))
 (fun v0 v2=>(kJb (id:=5000002) () (fun v3 a4 v4=>(kIf (c:=x0.fKind !=(2:Int)) (kXj (alts:=Z5 ()) a4 true (.here () rfl (.refl _) (.refl _)))
 (kIfD (p:=x0.fBits< (2:Int)) (kXj (alts:=Z5 ()) a4 true (.here () rfl (.refl _) (.refl _)))
 (kIfD (p:=(31:Int)<x0.fBits) (kXj (alts:=Z5 ()) a4 true (.here () rfl (.refl _) (.refl _)))
 (kIfD (p:=x0.fFrac< (0:Int)) (kXj (alts:=Z5 ()) a4 true (.here () rfl (.refl _) (.refl _)))
 (kIfD (p:=(30:Int)<x0.fFrac) (kXj (alts:=Z5 ()) a4 true (.here () rfl (.refl _) (.refl _)))
 (kIf (c:=v2) (kXj (alts:=Z5 ()) a4 false (.next (.here () rfl (.refl _) (.refl _))))
 (kXj (alts:=Z5 ()) a4 true (.here () rfl (.refl _) (.refl _))))))))))
 (fun v3=>(kEr (enc:=eI) (10:Int)))
 (fun v3=>(kEr (enc:=eI) (0:Int)))))) h)
def YR(s:Q6)(u:Int)(o:Bool):List Alt:=jb o (fun b=>[.ptr 0 0 0,ii u,.bool b]) [.cells 0 (Qc s).cells]
def ZP(x0:Q6):Option Int:=
 some x0.fKind>>=fun v0=>
 (if x0.fKind==(1:Int) then
 some true
 else
 if x0.fKind==(3:Int) then
 some true
 else
 some false)>>=fun v1=>if v1 then
 M0 x0>>=fun v3=>if v3 then
 some (0:Int)
 else
 some (10:Int)
 else
 if v0==(2:Int) then
 K6 x0>>=fun v5=>
 if v5==(0:Int) then
 some (0:Int)
 else
 some (10:Int)
 else
 some (10:Int)
theorem Kc(x0:Q6)(r:Int)(h:ZP x0=some r):PU 63 [Qc x0] (eI r):=
 Pu2 (hs:=[(5,.split),(5,.split),(9,.cb),(11,.split),(13,.c eI),(14,.split),(6000004,.l [] [] [] [1,4,5] [kk 1] (YR x0))]) ((kJb (id:=6000004) x0.fKind (fun v0 a4 v1=>(kIf (c:=x0.fKind==(1:Int)) (kXj (alts:=YR x0) a4 true (.here () rfl (.refl _) (.refl _)))
 (kIf (c:=x0.fKind==(3:Int)) (kXj (alts:=YR x0) a4 true (.here () rfl (.refl _) (.refl _)))
 (kXj (alts:=YR x0) a4 false (.next (.here () rfl (.refl _) (.refl _)))))))
 (fun v0=>(kCb (F0 x0) (kEr (enc:=eI) (0:Int))
 (kEr (enc:=eI) (10:Int))))
 (fun v0=>(kIf (c:=v0==(2:Int)) (kC (sh:=eI) (WN x0) fun v5=>(kIf (c:=v5==(0:Int)) (kEr (enc:=eI) (0:Int))
 (kEr (enc:=eI) (10:Int))))
 (kEr (enc:=eI) (10:Int))))) h)
def K2(s:Unit)(u:((List Int)×Int))(o:Unit ⊕ Int):List Alt:=[⟨fun(x:Unit)=>(Sum.inl x:Unit ⊕ Int)=o,.exit 2,fun x=>[.undef],fun x=>[]⟩,⟨fun(x:Int)=>(Sum.inr x:Unit ⊕ Int)=o,.ret,fun x=>[ii x],fun x=>[]⟩]
def ZO(x5:Int)(a4:List Int)(a5:Int)(a3:Int):Option (Unit ⊕ Int):=
 if a3<a5 then
 ix a4 a3>>=fun v0=>
 if x5≠(0:Int) then
 if wr (Int.tdiv (4096:Int) x5)<v0 then
 some (.inr (2:Int))
 else
 some (wr (x5*v0):Int)>>=fun v1=>
 ZO v1 a4 a5 (wr (a3+(1:Int)))
 else none
 else
 some (.inl ())
 partial_fixpoint
theorem I9(x5:Int)(a3:List Int)(a4:Int)(a5:Int)(o:Unit ⊕ Int)(h:ZO x5 a3 a4 a5=some o):LO 52 11 34 [5,20,21,22] [ii x5,.sl 1 (List.map eI a3),ii a4,ii a5] [] [2] (K2 () (a3,a4) o):=
 ZO.partial_correctness a3 a4 (fun x5 a5 o=>LO 52 11 34 [5,20,21,22] [ii x5,.sl 1 (List.map eI a3),ii a4,ii a5] [] [2] (K2 () (a3,a4) o))
 (fun ZO Q6o x5 a5 o h=>
 Lp2 (hs:=[(23,.split),(24,.e eI),(28,.s),(29,.split),(5,.n eI 5 none)]) (kb:=[]) (kbx:=[]) ((kIfD (p:=a5<a4) (kIx (enc:=eI) (l:=a3) (k:=a5) fun v0=>(kG (p:=x5≠(0:Int)) (kIfD (p:=wr (Int.tdiv (4096:Int) x5)<v0) (kX (alts:=K2 () (a3,a4)) (.inr (2:Int)) (.next (.here _ rfl (.refl _) (.refl _))))
 (kN (wr (x5*v0)) rfl fun v1=>(kM0 (alts:=K2 () (a3,a4)) (Q6o v1 (wr (a5+(1:Int)))))))))
 (kX (alts:=K2 () (a3,a4)) (.inl ()) (.here _ rfl (.refl _) (.refl _)))) h)) x5 a5 o h
def Ku(s:List Int)(u:((List Int)×Int))(o:Unit ⊕ Int):List Alt:=[⟨fun(x:Unit)=>(Sum.inl x:Unit ⊕ Int)=o,.exit 0,fun x=>[.sl 1 (List.map eI s),.undef],fun x=>[]⟩,⟨fun(x:Int)=>(Sum.inr x:Unit ⊕ Int)=o,.ret,fun x=>[.sl 1 (List.map eI s),ii x],fun x=>[]⟩]
def X1(a4:List Int)(a5:Int)(a3:Int):Option (Unit ⊕ Int):=
 if a3<a5 then
 ix a4 a3>>=fun v0=>
 if v0< (1:Int) then
 some (.inr (1:Int))
 else
 X1 a4 a5 (wr (a3+(1:Int)))
 else
 some (.inl ())
 partial_fixpoint
theorem Hb(x0:List Int)(a3:List Int)(a4:Int)(a5:Int)(o:Unit ⊕ Int)(h:X1 a3 a4 a5=some o):LO 52 4 34 [0,11,12,13] [.sl 1 (List.map eI x0),.sl 1 (List.map eI a3),ii a4,ii a5] [] [0,2] (Ku x0 (a3,a4) o):=
 X1.partial_correctness a3 a4 (fun a5 o=>∀(x0:List Int),LO 52 4 34 [0,11,12,13] [.sl 1 (List.map eI x0),.sl 1 (List.map eI a3),ii a4,ii a5] [] [0,2] (Ku x0 (a3,a4) o))
 (fun X1 Q6p a5 o h x0=>
 Lp2 (hs:=[(14,.split),(15,.e eI),(18,.split)]) (kb:=[]) (kbx:=[]) ((kIfD (p:=a5<a4) (kIx (enc:=eI) (l:=a3) (k:=a5) fun v0=>(kIfD (p:=v0< (1:Int)) (kX (alts:=Ku x0 (a3,a4)) (.inr (1:Int)) (.next (.here _ rfl (.refl _) (.refl _))))
 (kM0 (alts:=Ku x0 (a3,a4)) (fun y hy=>Q6p (wr (a5+(1:Int))) y hy x0))))
 (kX (alts:=Ku x0 (a3,a4)) (.inl ()) (.here _ rfl (.refl _) (.refl _)))) h)) a5 o h x0
def VW(x0:List Int):Option Int:=
 some (List.length x0:Int)>>=fun v0=>
 if(6:Int)<v0 then
 some (2:Int)
 else
 some (List.length x0:Int)>>=fun v1=>
 some (x0,v1)>>=fun v2=>
 X1 x0 v1 (0:Int)>>=fun v3=>(match v3 with
 | (.inl v4)=>
 some ((1:Int):Int)>>=fun v5=>
 some (List.length x0:Int)>>=fun v6=>
 some (x0,v6)>>=fun v7=>
 ZO v5 x0 v6 (0:Int)>>=fun v8=>(match v8 with
 | (.inl v9)=>
 some (0:Int)
 | (.inr v10)=>
 some v10)
 | (.inr v11)=>
 some v11)
theorem Wa(x0:List Int)(r:Int)(h:VW x0=some r):PU 52 [eLI x0] (eI r):=
 Pu2 (hs:=[(9,.n eI 9 none),(10,.split),(12,.n eI 12 none),(21,.n eI 21 none),(5,.n eI 5 none),(3000012,.l [] [5,20,21,22] [] [2] [] (K2 ())),(3000005,.l [] [0,11,12,13] [] [0,2] [] (Ku x0))]) ((kN _ (mLen (sh:=eI) x0) fun v0=>(kIfD (p:=(6:Int)<v0) (kEr (enc:=eI) (2:Int))
 (kN _ (mLen (sh:=eI) x0) fun v1=>(kL2 (x0,v1) (hL:=(Hb x0 x0 v1 (0:Int))) (hA:=fun v2 v4=>(kN (1:Int) rfl fun v5=>(kN _ (mLen (sh:=eI) x0) fun v6=>(kL2 (x0,v6) (hL:=(I9 v5 x0 v6 (0:Int))) (hA:=fun v7 v9=>(kEr (enc:=eI) (0:Int)))
 (hB:=fun v7 a4=>(kEr (enc:=eI) a4))))))
 (hB:=fun v2 a5=>(kEr (enc:=eI) a5)))))) h)
def QW(s:List Q9)(u:Int)(o:Unit ⊕ Int):List Alt:=[⟨fun(x:Unit)=>(Sum.inl x:Unit ⊕ Int)=o,.exit 0,fun x=>[.undef],fun x=>[]⟩,⟨fun(x:Int)=>(Sum.inr x:Unit ⊕ Int)=o,.ret,fun x=>[ii x],fun x=>[]⟩]
def XY(s:((List Q9)×Int))(u:Int)(o:Bool):List Alt:=jb o (fun b=>[.sl 8 (List.map Q5 (s.1)),ii (s.2),ii u,.bool b]) []
def Z6(x0:List Q9)(x7:Int)(x8:Int):Option (Unit ⊕ Int):=
 if x8<x7 then
 ix x0 x8>>=fun v0=>
 VU v0.fName>>=fun v1=>if v1 then
 if(0:Int)≤(0:Int)∧(0:Int)≤x8∧x8≤(↑(List.map Q5 x0).length:Int) then
 some ((List.drop (0:Nat) (List.take x8.toNat x0)):List Q9)>>=fun v2=>
 Xf v2 v0>>=fun v3=>if v3 then
 some (.inr (8:Int))
 else
 ZP v0.fType>>=fun v4=>
 if v4 !=(0:Int) then
 some (.inr (10:Int))
 else
 VW v0.fDims>>=fun v5=>
 if v5 !=(0:Int) then
 some (.inr v5)
 else
 some x8>>=fun v6=>
 (if v0.fUse< (1:Int) then
 some true
 else
 if(3:Int)<v0.fUse then
 some true
 else
 some false)>>=fun v7=>if v7 then
 some (.inr (1:Int))
 else
 Z6 x0 x7 (wr (v6+(1:Int)))
 else none
 else
 some (.inr (7:Int))
 else
 some (.inl ())
 partial_fixpoint
theorem M4(x0:List Q9)(x7:Int)(x8:Int)(o:Unit ⊕ Int)(h:Z6 x0 x7 x8=some o):LO 46 2 46 [0,7,8] [.sl 8 (List.map Q5 x0),ii x7,ii x8] [] [2] (QW x0 x7 o):=
 Z6.partial_correctness x0 x7 (fun x8 o=>LO 46 2 46 [0,7,8] [.sl 8 (List.map Q5 x0),ii x7,ii x8] [] [2] (QW x0 x7 o))
 (fun Z6 Q56 x8 o h=>
 Lp2 (hs:=[(9,.split),(13,.e Q5),(18,.cb),(23,.n NM 23 (some .s)),(24,.z [{slot:=4,fz:=true}] none),(25,.cb),(29,.c eI),(30,.split),(33,.c eI),(35,.split),(39,.split),(43,.split),(5000014,.l [] [] [] [0,7,8,44] [] (XY (x0,x7)))]) (kb:=[]) (kbx:=[]) ((kIfD (p:=x8<x7) (kIx (enc:=Q5) (l:=x0) (k:=x8) fun v0=>(kCb (C5 v0.fName) (kG (p:=(0:Int)≤(0:Int)∧(0:Int)≤x8∧x8≤(↑(List.map Q5 x0).length:Int)) (kW (sh:=NM) (List.drop (0:Nat) (List.take x8.toNat x0)) (leSl (mTD (sh:=Q5) x0 x8.toNat (0:Nat))) fun v2=>(kCb (Dz v2 v0) (kX (alts:=QW x0 x7) (.inr (8:Int)) (.next (.here _ rfl (.refl _) (.refl _))))
 (kC (sh:=eI) (Kc v0.fType) fun v4=>(kIf (c:=v4 !=(0:Int)) (kX (alts:=QW x0 x7) (.inr (10:Int)) (.next (.here _ rfl (.refl _) (.refl _))))
 (kC (sh:=eI) (Wa v0.fDims) fun v5=>(kIf (c:=v5 !=(0:Int)) (kX (alts:=QW x0 x7) (.inr v5) (.next (.here _ rfl (.refl _) (.refl _))))
 (kJb (id:=5000014) x8 (fun v6 a6 v7=>(kIfD (p:=v0.fUse< (1:Int)) (kXj (alts:=XY (x0,x7)) a6 true (.here () rfl (.refl _) (.refl _)))
 (kIfD (p:=(3:Int)<v0.fUse) (kXj (alts:=XY (x0,x7)) a6 true (.here () rfl (.refl _) (.refl _)))
 (kXj (alts:=XY (x0,x7)) a6 false (.next (.here () rfl (.refl _) (.refl _)))))))
 (fun v6=>(kX (alts:=QW x0 x7) (.inr (1:Int)) (.next (.here _ rfl (.refl _) (.refl _)))))
 (fun v6=>(kM0 (alts:=QW x0 x7) (Q56 (wr (v6+(1:Int))))))))))))))
 (kX (alts:=QW x0 x7) (.inr (7:Int)) (.next (.here _ rfl (.refl _) (.refl _))))))
 (kX (alts:=QW x0 x7) (.inl ()) (.here _ rfl (.refl _) (.refl _)))) h)) x8 o h
def Vy(x0:List Q9):Option Int:=
 some (List.length x0:Int)>>=fun v0=>
 some v0>>=fun v1=>
 Z6 x0 v0 (0:Int)>>=fun v2=>(match v2 with
 | (.inl v3)=>
 some (0:Int)
 | (.inr v4)=>
 some v4)
theorem L3(x0:List Q9)(r:Int)(h:Vy x0=some r):PU 46 [NM x0] (eI r):=
 Pu2 (hs:=[(7,.n eI 7 none),(3000003,.l [] [0,7,8] [] [2] [] (QW x0))]) ((kN _ (mLen (sh:=Q5) x0) fun v0=>(kL2 v0 (hL:=(M4 x0 v0 (0:Int))) (hA:=fun v1 v3=>(kEr (enc:=eI) (0:Int)))
 (hB:=fun v1 v4=>(kEr (enc:=eI) v4)))) h)
def W0(x0:Int):Option Bool:=
 if(2:Int)≤x0 then
 some (decide (x0≤(31:Int)))
 else
 some false
theorem IN(x0:Int)(r:Bool)(h:W0 x0=some r):PU 171 [eI x0] (eB r):=
 Pu2 (hs:=[(4,.split)]) ((kIfD (p:=(2:Int)≤x0) (kEr (enc:=eB) (decide (x0≤(31:Int))))
 (kEr (enc:=eB) false)) h)
def Ng(x0:Int):Option Int:=
 W0 x0>>=fun v0=>if v0 then
 if(0:Int)≤w6 (wr (x0 - (1:Int))) then
 some (wr ((0:Int) - wr ((1:Int)*(2:Int)^min (w6 (wr (x0 - (1:Int)))).toNat (64:Nat))))
 else none
 else
 some (0:Int)
theorem Sy(x0:Int)(r:Int)(h:Ng x0=some r):PU 135 [eI x0] (eI r):=
 Pu2 (hs:=[(4,.cb),(9,.s)]) ((kCb (IN x0) (kG (p:=(0:Int)≤w6 (wr (x0 - (1:Int)))) (kEr (enc:=eI) (wr ((0:Int) - wr ((1:Int)*(2:Int)^min (w6 (wr (x0 - (1:Int)))).toNat (64:Nat))))))
 (kEr (enc:=eI) (0:Int))) h)
def Nf(x0:Int):Option Int:=
 W0 x0>>=fun v0=>if v0 then
 if(0:Int)≤w6 (wr (x0 - (1:Int))) then
 some (wr (wr ((1:Int)*(2:Int)^min (w6 (wr (x0 - (1:Int)))).toNat (64:Nat)) - (1:Int)))
 else none
 else
 some (0:Int)
theorem Sx(x0:Int)(r:Int)(h:Nf x0=some r):PU 136 [eI x0] (eI r):=
 Pu2 (hs:=[(4,.cb),(9,.s)]) ((kCb (IN x0) (kG (p:=(0:Int)≤w6 (wr (x0 - (1:Int)))) (kEr (enc:=eI) (wr (wr ((1:Int)*(2:Int)^min (w6 (wr (x0 - (1:Int)))).toNat (64:Nat)) - (1:Int)))))
 (kEr (enc:=eI) (0:Int))) h)
def NX(x0:Q6)(x1:gVal):Option Bool:=
 K6 x0>>=fun v0=>
 if v0==(0:Int) then
 if x1.fD==(1:Int) then
 Ng x0.fBits>>=fun v1=>
 if v1≤x1.fN then
 Nf x0.fBits>>=fun v2=>
 some (decide (x1.fN≤v2))
 else
 some false
 else
 some false
 else
 some false
theorem AL(x0:Q6)(x1:gVal)(r:Bool)(h:NX x0 x1=some r):PU 112 [Qc x0,Qk x1] (eB r):=
 Pu2 (hs:=[(6,.c eI),(7,.split),(11,.split),(18,.c eI),(19,.split),(26,.c eI)]) ((kC (sh:=eI) (WN x0) fun v0=>(kIf (c:=v0==(0:Int)) (kIf (c:=x1.fD==(1:Int)) (kC (sh:=eI) (Sy x0.fBits) fun v1=>(kIfD (p:=v1≤x1.fN) (kC (sh:=eI) (Sx x0.fBits) fun v2=>(kEr (enc:=eB) (decide (x1.fN≤v2))))
 (kEr (enc:=eB) false)))
 (kEr (enc:=eB) false))
 (kEr (enc:=eB) false))) h)
def M1(x0:Int):Option Bool:=
 if(-2147483647:Int)≤x0 then
 some (decide (x0≤(2147483647:Int)))
 else
 some false
theorem F1(x0:Int)(r:Bool)(h:M1 x0=some r):PU 113 [eI x0] (eB r):=
 Pu2 (hs:=[(4,.split)]) ((kIfD (p:=(-2147483647:Int)≤x0) (kEr (enc:=eB) (decide (x0≤(2147483647:Int))))
 (kEr (enc:=eB) false)) h)
def Nd(x0:Int):Option Bool:=
 if(-2147483647:Int)≤x0 then
 some (decide (x0≤(2147483647:Int)))
 else
 some false
theorem So(x0:Int)(r:Bool)(h:Nd x0=some r):PU 137 [eI x0] (eB r):=
 Pu2 (hs:=[(4,.split)]) ((kIfD (p:=(-2147483647:Int)≤x0) (kEr (enc:=eB) (decide (x0≤(2147483647:Int))))
 (kEr (enc:=eB) false)) h)
def W5(x0:Int):Option Int:=
 if x0< (0:Int) then
 some (w6 ((0:Int) - w6 x0))
 else
 some (w6 x0)
theorem Rf(x0:Int)(r:Int)(h:W5 x0=some r):PU 139 [eI x0] (eU64 r):=
 Pu2 (hs:=[(4,.split)]) ((kIfD (p:=x0< (0:Int)) (kEr (enc:=eU64) (w6 ((0:Int) - w6 x0)))
 (kEr (enc:=eU64) (w6 x0))) h)
def GZ(s:Unit)(u:Unit)(o:Int):List Alt:=[⟨fun(x:Int)=>x=o,.exit 0,fun x=>[.int .u64 x],fun x=>[]⟩]
def JY(x0:Int)(x1:Int):Option Int:=
 if x1 !=(0:Int) then
 if x1≠(0:Int) then
 some (x0.tmod x1:Int)>>=fun v0=>
 JY x1 v0
 else none
 else
 some x0
 partial_fixpoint
theorem AM(x0:Int)(x1:Int)(o:Int)(h:JY x0 x1=some o):LO 138 1 12 [0,1] [.int .u64 x0,.int .u64 x1] [] [0] (GZ () () o):=
 JY.partial_correctness (fun x0 x1 o=>LO 138 1 12 [0,1] [.int .u64 x0,.int .u64 x1] [] [0] (GZ () () o))
 (fun JY Q4v x0 x1 o h=>
 Lp2 (hs:=[(6,.split),(10,.s),(1,.n eU64 1 none)]) (kb:=[]) (kbx:=[]) ((kIf (c:=x1 !=(0:Int)) (kG (p:=x1≠(0:Int)) (kN (x0.tmod x1) rfl fun v0=>(kM0 (alts:=GZ () ()) (Q4v x1 v0))))
 (kX (alts:=GZ () ()) x0 (.here _ rfl (.refl _) (.refl _)))) h)) x0 x1 o h
def I4(x0:Int)(x1:Int):Option Int:=
 some ()>>=fun v0=>
 JY x0 x1>>=fun v2=>
 some v2
theorem BV(x0:Int)(x1:Int)(r:Int)(h:I4 x0 x1=some r):PU 138 [eU64 x0,eU64 x1] (eU64 r):=
 Pu2 (hs:=[(3000002,.l [] [0,1] [] [0] [] (GZ ()))]) ((kL1 () (AM x0 x1) fun v0 v2=>(kEr (enc:=eU64) v2)) h)
def Wv(x0:gVal):Option Bool:=
 if(1:Int)≤x0.fD then
 if x0.fD≤(2147483647:Int) then
 Nd x0.fN>>=fun v0=>if v0 then
 W5 x0.fN>>=fun v1=>
 I4 v1 (w6 x0.fD)>>=fun v2=>
 some (v2==(1:Int))
 else
 some false
 else
 some false
 else
 some false
theorem Fz(x0:gVal)(r:Bool)(h:Wv x0=some r):PU 114 [Qk x0] (eB r):=
 Pu2 (hs:=[(5,.split),(9,.split),(14,.cb),(19,.c eU64),(23,.c eU64)]) ((kIfD (p:=(1:Int)≤x0.fD) (kIfD (p:=x0.fD≤(2147483647:Int)) (kCb (So x0.fN) (kC (sh:=eU64) (Rf x0.fN) fun v1=>(kC (sh:=eU64) (BV v1 (w6 x0.fD)) fun v2=>(kEr (enc:=eB) (v2==(1:Int)))))
 (kEr (enc:=eB) false))
 (kEr (enc:=eB) false))
 (kEr (enc:=eB) false)) h)
def D7(x0:Q6)(x1:gVal):Option Bool:=
 ZP x0>>=fun v0=>
 if v0 !=(0:Int) then
 some false
 else
 if x0.fKind==(2:Int) then
 NX x0 x1>>=fun v1=>
 some v1
 else
 if x0.fKind==(3:Int) then
 if x1.fD==(1:Int) then
 M1 x1.fN>>=fun v2=>
 some v2
 else
 some false
 else
 Wv x1>>=fun v3=>
 some v3
theorem IP(x0:Q6)(x1:gVal)(r:Bool)(h:D7 x0 x1=some r):PU 87 [Qc x0,Qk x1] (eB r):=
 Pu2 (hs:=[(6,.c eI),(7,.split),(11,.split),(14,.c eB),(16,.split),(19,.split),(23,.c eB),(26,.c eB)]) ((kC (sh:=eI) (Kc x0) fun v0=>(kIf (c:=v0 !=(0:Int)) (kEr (enc:=eB) false)
 (kIf (c:=x0.fKind==(2:Int)) (kC (sh:=eB) (AL x0 x1) fun v1=>(kEr (enc:=eB) v1))
 (kIf (c:=x0.fKind==(3:Int)) (kIf (c:=x1.fD==(1:Int)) (kC (sh:=eB) (F1 x1.fN) fun v2=>(kEr (enc:=eB) v2))
 (kEr (enc:=eB) false))
 (kC (sh:=eB) (Fz x1) fun v3=>(kEr (enc:=eB) v3)))))) h)
def Di(x0:Int):Option Bool:=
 some (x0 !=x0)
theorem L8(x0:Int)(r:Bool)(h:Di x0=some r):PU 252 [eI x0] (eB r):=
 Pu2 (hs:=[]) ((kEr (enc:=eB) (x0 !=x0)) h)
def Zy(x0:Int)(x1:Int):Option Int:=
 Di x0>>=fun v0=>
 Di x1>>=fun v1=>
 if v0 then
 if v1 then
 some (0:Int)
 else
 some (-1:Int)
 else
 if v1 then
 some (1:Int)
 else
 if x0<x1 then
 some (-1:Int)
 else
 if x1<x0 then
 some (1:Int)
 else
 some (0:Int)
theorem XI(x0:Int)(x1:Int)(r:Int)(h:Zy x0 x1=some r):PU 205 [eI x0,eI x1] (eI r):=
 Pu2 (hs:=[(8,.c eB),(10,.c eB),(11,.split),(12,.split),(13,.split),(16,.split),(19,.split)]) ((kC (sh:=eB) (L8 x0) fun v0=>(kC (sh:=eB) (L8 x1) fun v1=>(kIf (c:=v0) (kIf (c:=v1) (kEr (enc:=eI) (0:Int))
 (kEr (enc:=eI) (-1:Int)))
 (kIf (c:=v1) (kEr (enc:=eI) (1:Int))
 (kIfD (p:=x0<x1) (kEr (enc:=eI) (-1:Int))
 (kIfD (p:=x1<x0) (kEr (enc:=eI) (1:Int))
 (kEr (enc:=eI) (0:Int)))))))) h)
def KQ(x0:Str)(x1:Str):Option Int:=
 Xv x0 x1>>=fun v0=>
 some v0
theorem W9(x0:Str)(x1:Str)(r:Int)(h:KQ x0 x1=some r):PU 253 [eS x0,eS x1] (eI r):=
 Pu2 (hs:=[(7,.c eI)]) ((kC (sh:=eI) (Gi x0 x1) fun v0=>(kEr (enc:=eI) v0)) h)
def Vr(x0:Str)(x1:Str):Option Int:=
 KQ x0 x1>>=fun v0=>
 some v0
theorem Cv(x0:Str)(x1:Str)(r:Int)(h:Vr x0 x1=some r):PU 206 [eS x0,eS x1] (eI r):=
 Pu2 (hs:=[(7,.c eI)]) ((kC (sh:=eI) (W9 x0 x1) fun v0=>(kEr (enc:=eI) v0)) h)
def Gj(x0:Int):Option Bool:=
 some (x0 !=x0)
theorem M7(x0:Int)(r:Bool)(h:Gj x0=some r):PU 254 [eI x0] (eB r):=
 Pu2 (hs:=[]) ((kEr (enc:=eB) (x0 !=x0)) h)
def VE(x0:Int)(x1:Int):Option Int:=
 Gj x0>>=fun v0=>
 Gj x1>>=fun v1=>
 if v0 then
 if v1 then
 some (0:Int)
 else
 some (-1:Int)
 else
 if v1 then
 some (1:Int)
 else
 if x0<x1 then
 some (-1:Int)
 else
 if x1<x0 then
 some (1:Int)
 else
 some (0:Int)
theorem Na(x0:Int)(x1:Int)(r:Int)(h:VE x0 x1=some r):PU 207 [eI x0,eI x1] (eI r):=
 Pu2 (hs:=[(8,.c eB),(10,.c eB),(11,.split),(12,.split),(13,.split),(16,.split),(19,.split)]) ((kC (sh:=eB) (M7 x0) fun v0=>(kC (sh:=eB) (M7 x1) fun v1=>(kIf (c:=v0) (kIf (c:=v1) (kEr (enc:=eI) (0:Int))
 (kEr (enc:=eI) (-1:Int)))
 (kIf (c:=v1) (kEr (enc:=eI) (1:Int))
 (kIfD (p:=x0<x1) (kEr (enc:=eI) (-1:Int))
 (kIfD (p:=x1<x0) (kEr (enc:=eI) (1:Int))
 (kEr (enc:=eI) (0:Int)))))))) h)
def Jw(s:Unit)(u:(Int× (List Int)×Int))(o:Unit ⊕ Int):List Alt:=[⟨fun(x:Unit)=>(Sum.inl x:Unit ⊕ Int)=o,.exit 0,fun x=>[.undef,ii u.1],fun x=>[]⟩,⟨fun(x:Int)=>(Sum.inr x:Unit ⊕ Int)=o,.ret,fun x=>[ii x,ii u.1],fun x=>[]⟩]
def Yy(x3:Int)(x6:List Int)(x7:Int)(x8:Int):Option (Unit ⊕ Int):=
 if x8<x7 then
 ix x6 x8>>=fun v0=>
 if v0 !=x3 then
 some (.inr v0)
 else
 Yy x3 x6 x7 (wr (x8+(1:Int)))
 else
 some (.inl ())
 partial_fixpoint
theorem T6(x3:Int)(x6:List Int)(x7:Int)(x8:Int)(o:Unit ⊕ Int)(h:Yy x3 x6 x7 x8=some o):LO 204 3 18 [3,6,7,8] [ii x3,.sl 1 (List.map eI x6),ii x7,ii x8] [] [2,3] (Jw () (x3,x6,x7) o):=
 Yy.partial_correctness x3 x6 x7 (fun x8 o=>LO 204 3 18 [3,6,7,8] [ii x3,.sl 1 (List.map eI x6),ii x7,ii x8] [] [2,3] (Jw () (x3,x6,x7) o))
 (fun Yy Q4p x8 o h=>
 Lp2 (hs:=[(9,.split),(10,.e eI),(14,.split)]) (kb:=[]) (kbx:=[]) ((kIfD (p:=x8<x7) (kIx (enc:=eI) (l:=x6) (k:=x8) fun v0=>(kIf (c:=v0 !=x3) (kX (alts:=Jw () (x3,x6,x7)) (.inr v0) (.next (.here _ rfl (.refl _) (.refl _))))
 (kM0 (alts:=Jw () (x3,x6,x7)) (Q4p (wr (x8+(1:Int)))))))
 (kX (alts:=Jw () (x3,x6,x7)) (.inl ()) (.here _ rfl (.refl _) (.refl _)))) h)) x8 o h
def Du(x0:List Int):Option Int:=
 some (List.length x0:Int)>>=fun v0=>
 some ((0:Int),x0,v0)>>=fun v1=>
 Yy (0:Int) x0 v0 (0:Int)>>=fun v2=>(match v2 with
 | (.inl v3)=>
 some v1.fst
 | (.inr v4)=>
 some v4)
theorem Hk(x0:List Int)(r:Int)(h:Du x0=some r):PU 204 [eLI x0] (eI r):=
 Pu2 (hs:=[(7,.n eI 7 none),(3000004,.l [] [3,6,7,8] [] [2,3] [] (Jw ()))]) ((kN _ (mLen (sh:=eI) x0) fun v0=>(kL2 ((0:Int),x0,v0) (hL:=(T6 (0:Int) x0 v0 (0:Int))) (hA:=fun v1 v3=>(kEr (enc:=eI) v1.fst))
 (hB:=fun v1 v4=>(kEr (enc:=eI) v4)))) h)
def Dv(x0:Q6)(x1:Q6):Option Int:=
 Zy x0.fKind x1.fKind>>=fun v0=>
 Zy x0.fBits x1.fBits>>=fun v1=>
 Zy x0.fFrac x1.fFrac>>=fun v2=>
 Zy x0.fRound x1.fRound>>=fun v3=>
 Zy x0.fOver x1.fOver>>=fun v4=>
 Du [v0,v1,v2,v3,v4]>>=fun v5=>
 some v5
theorem Hl(x0:Q6)(x1:Q6)(r:Int)(h:Dv x0 x1=some r):PU 208 [Qc x0,Qc x1] (eI r):=
 Pu2 (hs:=[(9,.c eI),(14,.c eI),(19,.c eI),(24,.c eI),(29,.c eI),(31,.c eI)]) ((kC (sh:=eI) (XI x0.fKind x1.fKind) fun v0=>(kC (sh:=eI) (XI x0.fBits x1.fBits) fun v1=>(kC (sh:=eI) (XI x0.fFrac x1.fFrac) fun v2=>(kC (sh:=eI) (XI x0.fRound x1.fRound) fun v3=>(kC (sh:=eI) (XI x0.fOver x1.fOver) fun v4=>(kC (sh:=eI) (fun y hy=>Pu.le (Hk [v0,v1,v2,v3,v4] y hy) (.cons (LeT.sl (.cons (x:=AV.agg [ii v0]) (.refl _) (.cons (x:=AV.agg [ii v1]) (.refl _) (.cons (x:=AV.agg [ii v2]) (.refl _) (.cons (x:=AV.agg [ii v3]) (.refl _) (.cons (x:=AV.agg [ii v4]) (.refl _) .nil)))))) .nil) (LeT.refl _)) fun v5=>(kEr (enc:=eI) v5))))))) h)
def Cz(x0:Int)(x1:Int):Option Int:=
 if x0<x1 then
 some (-1:Int)
 else
 if x1<x0 then
 some (1:Int)
 else
 some (0:Int)
theorem EX(x0:Int)(x1:Int)(r:Int)(h:Cz x0 x1=some r):PU 257 [eI x0,eI x1] (eI r):=
 Pu2 (hs:=[(8,.split),(12,.split)]) ((kIfD (p:=x0<x1) (kEr (enc:=eI) (-1:Int))
 (kIfD (p:=x1<x0) (kEr (enc:=eI) (1:Int))
 (kEr (enc:=eI) (0:Int)))) h)
def L7(x0:Zu)(x1:Zu):Option Int:=
 if !x0.fName==x1.fName then
 Vr x0.fName x1.fName>>=fun v0=>
 some v0
 else
 Cz x0.fBy x1.fBy>>=fun v1=>
 some v1
theorem Tc(x0:Zu)(x1:Zu)(r:Int)(h:L7 x0 x1=some r):PU 256 [Qq x0,Qq x1] (eI r):=
 Pu2 (hs:=[(9,.split),(14,.c eI),(19,.c eI)]) ((kIf (c:= !x0.fName==x1.fName) (kC (sh:=eI) (Cv x0.fName x1.fName) fun v0=>(kEr (enc:=eI) v0))
 (kC (sh:=eI) (EX x0.fBy x1.fBy) fun v1=>(kEr (enc:=eI) v1))) h)
def QM(s:((List Zu)× (List Zu)))(u:((List Zu)×Int))(o:Unit ⊕ Int):List Alt:=[⟨fun(x:Unit)=>(Sum.inl x:Unit ⊕ Int)=o,.exit 0,fun x=>[.sl 2 (List.map Qq s.1),.sl 2 (List.map Qq s.2),.undef],fun x=>[]⟩,⟨fun(x:Int)=>(Sum.inr x:Unit ⊕ Int)=o,.ret,fun x=>[.sl 2 (List.map Qq s.1),.sl 2 (List.map Qq s.2),ii x],fun x=>[]⟩]
def QN(x1:List Zu)(a4:List Zu)(a5:Int)(a3:Int):Option (Unit ⊕ Int):=
 if a3<a5 then
 ix a4 a3>>=fun v0=>
 some (List.length x1:Int)>>=fun v1=>
 if v1≤a3 then
 some (.inr (1:Int))
 else
 ix x1 a3>>=fun v2=>
 L7 v0 v2>>=fun v3=>
 if v3 !=(0:Int) then
 some (.inr v3)
 else
 QN x1 a4 a5 (wr (a3+(1:Int)))
 else
 some (.inl ())
 partial_fixpoint
theorem Dr(x0:List Zu)(x1:List Zu)(a3:List Zu)(a4:Int)(a5:Int)(o:Unit ⊕ Int)(h:QN x1 a3 a4 a5=some o):LO 255 2 39 [0,1,2,11,12,13] [.sl 2 (List.map Qq x0),.sl 2 (List.map Qq x1),.fn 256 [],.sl 2 (List.map Qq a3),ii a4,ii a5] [] [0,1,6] (QM (x0,x1) (a3,a4) o):=
 QN.partial_correctness x1 a3 a4 (fun a5 o=>∀(x0:List Zu),LO 255 2 39 [0,1,2,11,12,13] [.sl 2 (List.map Qq x0),.sl 2 (List.map Qq x1),.fn 256 [],.sl 2 (List.map Qq a3),ii a4,ii a5] [] [0,1,6] (QM (x0,x1) (a3,a4) o))
 (fun QN Q6u a5 o h x0=>
 Lp2 (hs:=[(14,.split),(16,.e Qq),(20,.n eI 20 none),(21,.split),(24,.e Qq),(29,.c eI),(31,.split)]) (kb:=[]) (kbx:=[]) ((kIfD (p:=a5<a4) (kIx (enc:=Qq) (l:=a3) (k:=a5) fun v0=>(kN _ (mLen (sh:=Qq) x1) fun v1=>(kIfD (p:=v1≤a5) (kX (alts:=QM (x0,x1) (a3,a4)) (.inr (1:Int)) (.next (.here _ rfl (.refl _) (.refl _))))
 (kIx (enc:=Qq) (l:=x1) (k:=a5) fun v2=>(kC (sh:=eI) (Tc v0 v2) fun v3=>(kIf (c:=v3 !=(0:Int)) (kX (alts:=QM (x0,x1) (a3,a4)) (.inr v3) (.next (.here _ rfl (.refl _) (.refl _))))
 (kM0 (alts:=QM (x0,x1) (a3,a4)) (fun y hy=>Q6u (wr (a5+(1:Int))) y hy x0))))))))
 (kX (alts:=QM (x0,x1) (a3,a4)) (.inl ()) (.here _ rfl (.refl _) (.refl _)))) h)) a5 o h x0
def Kl(x0:List Zu)(x1:List Zu):Option Int:=
 some (List.length x0:Int)>>=fun v0=>
 some (x0,v0)>>=fun v1=>
 QN x1 x0 v0 (0:Int)>>=fun v2=>(match v2 with
 | (.inl v3)=>
 some (List.length x0:Int)>>=fun v4=>
 some (List.length x1:Int)>>=fun v5=>
 if v4<v5 then
 some (-1:Int)
 else
 some (0:Int)
 | (.inr v6)=>
 some v6)
theorem Cs(x0:List Zu)(x1:List Zu)(r:Int)(h:Kl x0 x1=some r):PU 255 [E9 x0,E9 x1,.fn 256 []] (eI r):=
 Pu2 (hs:=[(12,.n eI 12 none),(35,.n eI 35 none),(37,.n eI 37 none),(38,.split),(3000003,.l [] [0,1,2,11,12,13] [] [0,1,6] [] (QM (x0,x1)))]) ((kN _ (mLen (sh:=Qq) x0) fun v0=>(kL2 (x0,v0) (hL:=(Dr x0 x1 x0 v0 (0:Int))) (hA:=fun v1 v3=>(kN _ (mLen (sh:=Qq) x0) fun v4=>(kN _ (mLen (sh:=Qq) x1) fun v5=>(kIfD (p:=v4<v5) (kEr (enc:=eI) (-1:Int))
 (kEr (enc:=eI) (0:Int))))))
 (hB:=fun v1 v6=>(kEr (enc:=eI) v6)))) h)
def UL(x0:gLin)(x1:gLin):Option Int:=
 Kl x0.fL x1.fL>>=fun v0=>
 if v0 !=(0:Int) then
 some v0
 else
 Cz x0.fK x1.fK>>=fun v1=>
 some v1
theorem M3(x0:gLin)(x1:gLin)(r:Int)(h:UL x0 x1=some r):PU 209 [Qg x0,Qg x1] (eI r):=
 Pu2 (hs:=[(10,.c eI),(12,.split),(18,.c eI)]) ((kC (sh:=eI) (Cs x0.fL x1.fL) fun v0=>(kIf (c:=v0 !=(0:Int)) (kEr (enc:=eI) v0)
 (kC (sh:=eI) (EX x0.fK x1.fK) fun v1=>(kEr (enc:=eI) v1)))) h)
def QR(s:((List gLin)× (List gLin)))(u:((List gLin)×Int))(o:Unit ⊕ Int):List Alt:=[⟨fun(x:Unit)=>(Sum.inl x:Unit ⊕ Int)=o,.exit 0,fun x=>[.sl 2 (List.map Qg s.1),.sl 2 (List.map Qg s.2),.undef],fun x=>[]⟩,⟨fun(x:Int)=>(Sum.inr x:Unit ⊕ Int)=o,.ret,fun x=>[.sl 2 (List.map Qg s.1),.sl 2 (List.map Qg s.2),ii x],fun x=>[]⟩]
def ZB(x1:List gLin)(a4:List gLin)(a5:Int)(a3:Int):Option (Unit ⊕ Int):=
 if a3<a5 then
 ix a4 a3>>=fun v0=>
 some (List.length x1:Int)>>=fun v1=>
 if v1≤a3 then
 some (.inr (1:Int))
 else
 ix x1 a3>>=fun v2=>
 UL v0 v2>>=fun v3=>
 if v3 !=(0:Int) then
 some (.inr v3)
 else
 ZB x1 a4 a5 (wr (a3+(1:Int)))
 else
 some (.inl ())
 partial_fixpoint
theorem Dy(x0:List gLin)(x1:List gLin)(a3:List gLin)(a4:Int)(a5:Int)(o:Unit ⊕ Int)(h:ZB x1 a3 a4 a5=some o):LO 276 2 39 [0,1,2,11,12,13] [.sl 2 (List.map Qg x0),.sl 2 (List.map Qg x1),.fn 209 [],.sl 2 (List.map Qg a3),ii a4,ii a5] [] [0,1,6] (QR (x0,x1) (a3,a4) o):=
 ZB.partial_correctness x1 a3 a4 (fun a5 o=>∀(x0:List gLin),LO 276 2 39 [0,1,2,11,12,13] [.sl 2 (List.map Qg x0),.sl 2 (List.map Qg x1),.fn 209 [],.sl 2 (List.map Qg a3),ii a4,ii a5] [] [0,1,6] (QR (x0,x1) (a3,a4) o))
 (fun ZB Q6t a5 o h x0=>
 Lp2 (hs:=[(14,.split),(16,.e Qg),(20,.n eI 20 none),(21,.split),(24,.e Qg),(29,.c eI),(31,.split)]) (kb:=[]) (kbx:=[]) ((kIfD (p:=a5<a4) (kIx (enc:=Qg) (l:=a3) (k:=a5) fun v0=>(kN _ (mLen (sh:=Qg) x1) fun v1=>(kIfD (p:=v1≤a5) (kX (alts:=QR (x0,x1) (a3,a4)) (.inr (1:Int)) (.next (.here _ rfl (.refl _) (.refl _))))
 (kIx (enc:=Qg) (l:=x1) (k:=a5) fun v2=>(kC (sh:=eI) (M3 v0 v2) fun v3=>(kIf (c:=v3 !=(0:Int)) (kX (alts:=QR (x0,x1) (a3,a4)) (.inr v3) (.next (.here _ rfl (.refl _) (.refl _))))
 (kM0 (alts:=QR (x0,x1) (a3,a4)) (fun y hy=>Q6t (wr (a5+(1:Int))) y hy x0))))))))
 (kX (alts:=QR (x0,x1) (a3,a4)) (.inl ()) (.here _ rfl (.refl _) (.refl _)))) h)) a5 o h x0
def Ui(x0:List gLin)(x1:List gLin):Option Int:=
 some (List.length x0:Int)>>=fun v0=>
 some (x0,v0)>>=fun v1=>
 ZB x1 x0 v0 (0:Int)>>=fun v2=>(match v2 with
 | (.inl v3)=>
 some (List.length x0:Int)>>=fun v4=>
 some (List.length x1:Int)>>=fun v5=>
 if v4<v5 then
 some (-1:Int)
 else
 some (0:Int)
 | (.inr v6)=>
 some v6)
theorem CC(x0:List gLin)(x1:List gLin)(r:Int)(h:Ui x0 x1=some r):PU 276 [GD x0,GD x1,.fn 209 []] (eI r):=
 Pu2 (hs:=[(12,.n eI 12 none),(35,.n eI 35 none),(37,.n eI 37 none),(38,.split),(3000003,.l [] [0,1,2,11,12,13] [] [0,1,6] [] (QR (x0,x1)))]) ((kN _ (mLen (sh:=Qg) x0) fun v0=>(kL2 (x0,v0) (hL:=(Dy x0 x1 x0 v0 (0:Int))) (hA:=fun v1 v3=>(kN _ (mLen (sh:=Qg) x0) fun v4=>(kN _ (mLen (sh:=Qg) x1) fun v5=>(kIfD (p:=v4<v5) (kEr (enc:=eI) (-1:Int))
 (kEr (enc:=eI) (0:Int))))))
 (hB:=fun v1 v6=>(kEr (enc:=eI) v6)))) h)
def Ux(x0:List gLin)(x1:List gLin):Option Int:=
 some (List.length x0:Int)>>=fun v0=>
 some (List.length x1:Int)>>=fun v1=>
 Zy v0 v1>>=fun v2=>
 if v2 !=(0:Int) then
 some v2
 else
 Ui x0 x1>>=fun v3=>
 some v3
theorem W8(x0:List gLin)(x1:List gLin)(r:Int)(h:Ux x0 x1=some r):PU 259 [GD x0,GD x1,.fn 209 []] (eI r):=
 Pu2 (hs:=[(9,.n eI 9 none),(11,.n eI 11 none),(12,.c eI),(14,.split),(19,.c eI)]) ((kN _ (mLen (sh:=Qg) x0) fun v0=>(kN _ (mLen (sh:=Qg) x1) fun v1=>(kC (sh:=eI) (XI v0 v1) fun v2=>(kIf (c:=v2 !=(0:Int)) (kEr (enc:=eI) v2)
 (kC (sh:=eI) (CC x0 x1) fun v3=>(kEr (enc:=eI) v3)))))) h)
def N9(x0:Qi)(x1:Qi):Option Int:=
 Vr x0.fFrom x1.fFrom>>=fun v0=>
 if v0 !=(0:Int) then
 some v0
 else
 UL x0.fLin x1.fLin>>=fun v1=>
 if v1 !=(0:Int) then
 some v1
 else
 Ux x0.fAt x1.fAt>>=fun v2=>
 some v2
theorem IV(x0:Qi)(x1:Qi)(r:Int)(h:N9 x0 x1=some r):PU 211 [Q7 x0,Q7 x1] (eI r):=
 Pu2 (hs:=[(11,.c eI),(13,.split),(19,.c eI),(21,.split),(27,.c eI)]) ((kC (sh:=eI) (Cv x0.fFrom x1.fFrom) fun v0=>(kIf (c:=v0 !=(0:Int)) (kEr (enc:=eI) v0)
 (kC (sh:=eI) (M3 x0.fLin x1.fLin) fun v1=>(kIf (c:=v1 !=(0:Int)) (kEr (enc:=eI) v1)
 (kC (sh:=eI) (W8 x0.fAt x1.fAt) fun v2=>(kEr (enc:=eI) v2)))))) h)
def QH(s:((List Qi)× (List Qi)))(u:((List Qi)×Int))(o:Unit ⊕ Int):List Alt:=[⟨fun(x:Unit)=>(Sum.inl x:Unit ⊕ Int)=o,.exit 0,fun x=>[.sl 4 (List.map Q7 s.1),.sl 4 (List.map Q7 s.2),.undef],fun x=>[]⟩,⟨fun(x:Int)=>(Sum.inr x:Unit ⊕ Int)=o,.ret,fun x=>[.sl 4 (List.map Q7 s.1),.sl 4 (List.map Q7 s.2),ii x],fun x=>[]⟩]
def Z3(x1:List Qi)(a4:List Qi)(a5:Int)(a3:Int):Option (Unit ⊕ Int):=
 if a3<a5 then
 ix a4 a3>>=fun v0=>
 some (List.length x1:Int)>>=fun v1=>
 if v1≤a3 then
 some (.inr (1:Int))
 else
 ix x1 a3>>=fun v2=>
 N9 v0 v2>>=fun v3=>
 if v3 !=(0:Int) then
 some (.inr v3)
 else
 Z3 x1 a4 a5 (wr (a3+(1:Int)))
 else
 some (.inl ())
 partial_fixpoint
theorem Dh(x0:List Qi)(x1:List Qi)(a3:List Qi)(a4:Int)(a5:Int)(o:Unit ⊕ Int)(h:Z3 x1 a3 a4 a5=some o):LO 258 2 39 [0,1,2,11,12,13] [.sl 4 (List.map Q7 x0),.sl 4 (List.map Q7 x1),.fn 211 [],.sl 4 (List.map Q7 a3),ii a4,ii a5] [] [0,1,6] (QH (x0,x1) (a3,a4) o):=
 Z3.partial_correctness x1 a3 a4 (fun a5 o=>∀(x0:List Qi),LO 258 2 39 [0,1,2,11,12,13] [.sl 4 (List.map Q7 x0),.sl 4 (List.map Q7 x1),.fn 211 [],.sl 4 (List.map Q7 a3),ii a4,ii a5] [] [0,1,6] (QH (x0,x1) (a3,a4) o))
 (fun Z3 Q6s a5 o h x0=>
 Lp2 (hs:=[(14,.split),(16,.e Q7),(20,.n eI 20 none),(21,.split),(24,.e Q7),(29,.c eI),(31,.split)]) (kb:=[]) (kbx:=[]) ((kIfD (p:=a5<a4) (kIx (enc:=Q7) (l:=a3) (k:=a5) fun v0=>(kN _ (mLen (sh:=Q7) x1) fun v1=>(kIfD (p:=v1≤a5) (kX (alts:=QH (x0,x1) (a3,a4)) (.inr (1:Int)) (.next (.here _ rfl (.refl _) (.refl _))))
 (kIx (enc:=Q7) (l:=x1) (k:=a5) fun v2=>(kC (sh:=eI) (IV v0 v2) fun v3=>(kIf (c:=v3 !=(0:Int)) (kX (alts:=QH (x0,x1) (a3,a4)) (.inr v3) (.next (.here _ rfl (.refl _) (.refl _))))
 (kM0 (alts:=QH (x0,x1) (a3,a4)) (fun y hy=>Q6s (wr (a5+(1:Int))) y hy x0))))))))
 (kX (alts:=QH (x0,x1) (a3,a4)) (.inl ()) (.here _ rfl (.refl _) (.refl _)))) h)) a5 o h x0
def Kb(x0:List Qi)(x1:List Qi):Option Int:=
 some (List.length x0:Int)>>=fun v0=>
 some (x0,v0)>>=fun v1=>
 Z3 x1 x0 v0 (0:Int)>>=fun v2=>(match v2 with
 | (.inl v3)=>
 some (List.length x0:Int)>>=fun v4=>
 some (List.length x1:Int)>>=fun v5=>
 if v4<v5 then
 some (-1:Int)
 else
 some (0:Int)
 | (.inr v6)=>
 some v6)
theorem C6(x0:List Qi)(x1:List Qi)(r:Int)(h:Kb x0 x1=some r):PU 258 [VX x0,VX x1,.fn 211 []] (eI r):=
 Pu2 (hs:=[(12,.n eI 12 none),(35,.n eI 35 none),(37,.n eI 37 none),(38,.split),(3000003,.l [] [0,1,2,11,12,13] [] [0,1,6] [] (QH (x0,x1)))]) ((kN _ (mLen (sh:=Q7) x0) fun v0=>(kL2 (x0,v0) (hL:=(Dh x0 x1 x0 v0 (0:Int))) (hA:=fun v1 v3=>(kN _ (mLen (sh:=Q7) x0) fun v4=>(kN _ (mLen (sh:=Q7) x1) fun v5=>(kIfD (p:=v4<v5) (kEr (enc:=eI) (-1:Int))
 (kEr (enc:=eI) (0:Int))))))
 (hB:=fun v1 v6=>(kEr (enc:=eI) v6)))) h)
def Xz(x0:List Qi)(x1:List Qi):Option Int:=
 some (List.length x0:Int)>>=fun v0=>
 some (List.length x1:Int)>>=fun v1=>
 Zy v0 v1>>=fun v2=>
 if v2 !=(0:Int) then
 some v2
 else
 Kb x0 x1>>=fun v3=>
 some v3
theorem Cr(x0:List Qi)(x1:List Qi)(r:Int)(h:Xz x0 x1=some r):PU 210 [VX x0,VX x1,.fn 211 []] (eI r):=
 Pu2 (hs:=[(9,.n eI 9 none),(11,.n eI 11 none),(12,.c eI),(14,.split),(19,.c eI)]) ((kN _ (mLen (sh:=Q7) x0) fun v0=>(kN _ (mLen (sh:=Q7) x1) fun v1=>(kC (sh:=eI) (XI v0 v1) fun v2=>(kIf (c:=v2 !=(0:Int)) (kEr (enc:=eI) v2)
 (kC (sh:=eI) (C6 x0 x1) fun v3=>(kEr (enc:=eI) v3)))))) h)
def QL(s:((List Qb)× (List Qb)))(u:((List Qb)×Int))(o:Unit ⊕ Int):List Alt:=[⟨fun(x:Unit)=>(Sum.inl x:Unit ⊕ Int)=o,.exit 0,fun x=>[.sl 13 (List.map Qr s.1),.sl 13 (List.map Qr s.2),.undef],fun x=>[]⟩,⟨fun(x:Int)=>(Sum.inr x:Unit ⊕ Int)=o,.ret,fun x=>[.sl 13 (List.map Qr s.1),.sl 13 (List.map Qr s.2),ii x],fun x=>[]⟩]
mutual
def VT(x0:Q1)(x1:Q1):Option Int:=
 Zy x0.fOp x1.fOp>>=fun v0=>
 Vr x0.fName x1.fName>>=fun v1=>
 VE x0.fVal.fN x1.fVal.fN>>=fun v2=>
 VE x0.fVal.fD x1.fVal.fD>>=fun v3=>
 Dv x0.fType x1.fType>>=fun v4=>
 UL x0.fLin x1.fLin>>=fun v5=>
 Du [v0,v1,v2,v3,v4,v5]>>=fun v6=>
 if v6 !=(0:Int) then
 some v6
 else
 Xz x0.fIdx x1.fIdx>>=fun v7=>
 if v7 !=(0:Int) then
 some v7
 else
 ZT x0.fArgs x1.fArgs>>=fun v8=>
 some v8
 partial_fixpoint
def ZT(x0:List Qb)(x1:List Qb):Option Int:=
 some (List.length x0:Int)>>=fun v0=>
 some (List.length x1:Int)>>=fun v1=>
 Zy v0 v1>>=fun v2=>
 if v2 !=(0:Int) then
 some v2
 else
 XG x0 x1>>=fun v3=>
 some v3
 partial_fixpoint
def XG(x0:List Qb)(x1:List Qb):Option Int:=
 some (List.length x0:Int)>>=fun v0=>
 some (x0,v0)>>=fun v1=>
 Z8 x1 x0 v0 (0:Int)>>=fun v2=>(match v2 with
 | (.inl v3)=>
 some (List.length x0:Int)>>=fun v4=>
 some (List.length x1:Int)>>=fun v5=>
 if v4<v5 then
 some (-1:Int)
 else
 some (0:Int)
 | (.inr v6)=>
 some v6)
 partial_fixpoint
def Z8(x1:List Qb)(a4:List Qb)(a5:Int)(a3:Int):Option (Unit ⊕ Int):=
 if a3<a5 then
 Option.map Qb.f (ix a4 a3)>>=fun v0=>
 some (List.length x1:Int)>>=fun v1=>
 if v1≤a3 then
 some (.inr (1:Int))
 else
 Option.map Qb.f (ix x1 a3)>>=fun v2=>
 VT v0 v2>>=fun v3=>
 if v3 !=(0:Int) then
 some (.inr v3)
 else
 Z8 x1 a4 a5 (wr (a3+(1:Int)))
 else
 some (.inl ())
 partial_fixpoint
end
theorem T1:(∀(x0:Q1) (x1:Q1) (r:Int),VT x0 x1=some r→PU 174 [Q2 x0,Q2 x1] (eI r))∧(∀(x0:List Qb) (x1:List Qb) (r:Int),ZT x0 x1=some r→PU 212 [YO x0,YO x1,.fn 174 []] (eI r))∧(∀(x0:List Qb) (x1:List Qb) (r:Int),XG x0 x1=some r→PU 260 [YO x0,YO x1,.fn 174 []] (eI r))∧(∀(x1:List Qb) (a5:List Qb) (a6:Int) (a7:Int) (o:Unit ⊕ Int),Z8 x1 a5 a6 a7=some o→∀(x0:List Qb),LO 260 2 39 [0,1,2,11,12,13] [.sl 13 (List.map Qr x0),.sl 13 (List.map Qr x1),.fn 174 [],.sl 13 (List.map Qr a5),ii a6,ii a7] [] [0,1,6] (QL (x0,x1) (a5,a6) o)):=
 VT.mutual_partial_correctness (fun x0 x1 r=>PU 174 [Q2 x0,Q2 x1] (eI r)) (fun x0 x1 r=>PU 212 [YO x0,YO x1,.fn 174 []] (eI r)) (fun x0 x1 r=>PU 260 [YO x0,YO x1,.fn 174 []] (eI r)) (fun x1 a5 a6 a7 o=>∀(x0:List Qb),LO 260 2 39 [0,1,2,11,12,13] [.sl 13 (List.map Qr x0),.sl 13 (List.map Qr x1),.fn 174 [],.sl 13 (List.map Qr a5),ii a6,ii a7] [] [0,1,6] (QL (x0,x1) (a5,a6) o))
 (fun ZT Q4r x0 x1 r h=>
 Pu2 (hs:=[(11,.c eI),(16,.c eI),(23,.c eI),(30,.c eI),(35,.c eI),(40,.c eI),(42,.c eI),(44,.split),(50,.c eI),(52,.split),(58,.c eI)]) ((kC (sh:=eI) (XI x0.fOp x1.fOp) fun v0=>(kC (sh:=eI) (Cv x0.fName x1.fName) fun v1=>(kC (sh:=eI) (Na x0.fVal.fN x1.fVal.fN) fun v2=>(kC (sh:=eI) (Na x0.fVal.fD x1.fVal.fD) fun v3=>(kC (sh:=eI) (Hl x0.fType x1.fType) fun v4=>(kC (sh:=eI) (M3 x0.fLin x1.fLin) fun v5=>(kC (sh:=eI) (fun y hy=>Pu.le (Hk [v0,v1,v2,v3,v4,v5] y hy) (.cons (LeT.sl (.cons (x:=AV.agg [ii v0]) (.refl _) (.cons (x:=AV.agg [ii v1]) (.refl _) (.cons (x:=AV.agg [ii v2]) (.refl _) (.cons (x:=AV.agg [ii v3]) (.refl _) (.cons (x:=AV.agg [ii v4]) (.refl _) (.cons (x:=AV.agg [ii v5]) (.refl _) .nil))))))) .nil) (LeT.refl _)) fun v6=>(kIf (c:=v6 !=(0:Int)) (kEr (enc:=eI) v6)
 (kC (sh:=eI) (Cr x0.fIdx x1.fIdx) fun v7=>(kIf (c:=v7 !=(0:Int)) (kEr (enc:=eI) v7)
 (kC (sh:=eI) (Q4r x0.fArgs x1.fArgs) fun v8=>(kEr (enc:=eI) v8)))))))))))) h))
 (fun XG Q6q x0 x1 r h=>
 Pu2 (hs:=[(9,.n eI 9 none),(11,.n eI 11 none),(12,.c eI),(14,.split),(19,.c eI)]) ((kN _ (mLen (sh:=Qr) x0) fun v0=>(kN _ (mLen (sh:=Qr) x1) fun v1=>(kC (sh:=eI) (XI v0 v1) fun v2=>(kIf (c:=v2 !=(0:Int)) (kEr (enc:=eI) v2)
 (kC (sh:=eI) (Q6q x0 x1) fun v3=>(kEr (enc:=eI) v3)))))) h))
 (fun Z8 Q6r x0 x1 r h=>
 Pu2 (hs:=[(12,.n eI 12 none),(35,.n eI 35 none),(37,.n eI 37 none),(38,.split),(3000003,.l [] [0,1,2,11,12,13] [] [0,1,6] [] (QL (x0,x1)))]) ((kN _ (mLen (sh:=Qr) x0) fun v0=>(kL2 (x0,v0) (hL:=(fun y hy=>Q6r x1 x0 v0 (0:Int) y hy x0)) (hA:=fun v1 v3=>(kN _ (mLen (sh:=Qr) x0) fun v4=>(kN _ (mLen (sh:=Qr) x1) fun v5=>(kIfD (p:=v4<v5) (kEr (enc:=eI) (-1:Int))
 (kEr (enc:=eI) (0:Int))))))
 (hB:=fun v1 v6=>(kEr (enc:=eI) v6)))) h))
 (fun VT Z8 Q4q Q6r x1 a5 a6 a7 o h x0=>
 Lp2 (hs:=[(14,.split),(16,.e Q2),(20,.n eI 20 none),(21,.split),(24,.e Q2),(29,.c eI),(31,.split)]) (kb:=[]) (kbx:=[]) ((kIfD (p:=a7<a6) (kIxR (l:=a5) (k:=a7) Yt fun v0=>(kN _ (mLen (sh:=Qr) x1) fun v1=>(kIfD (p:=v1≤a7) (kX (alts:=QL (x0,x1) (a5,a6)) (.inr (1:Int)) (.next (.here _ rfl (.refl _) (.refl _))))
 (kIxR (l:=x1) (k:=a7) Yt fun v2=>(kC (sh:=eI) (Q4q v0 v2) fun v3=>(kIf (c:=v3 !=(0:Int)) (kX (alts:=QL (x0,x1) (a5,a6)) (.inr v3) (.next (.here _ rfl (.refl _) (.refl _))))
 (kM0 (alts:=QL (x0,x1) (a5,a6)) (fun y hy=>Q6r x1 a5 a6 (wr (a7+(1:Int))) y hy x0))))))))
 (kX (alts:=QL (x0,x1) (a5,a6)) (.inl ()) (.here _ rfl (.refl _) (.refl _)))) h))
theorem Sm(x0:Q1)(x1:Q1)(r:Int)(h:VT x0 x1=some r):PU 174 [Q2 x0,Q2 x1] (eI r):=(T1).1 x0 x1 r h
def Li(x0:Q1)(x1:Q1):Option Bool:=
 VT x0 x1>>=fun v0=>
 some (v0==(0:Int))
theorem Oo(x0:Q1)(x1:Q1)(r:Bool)(h:Li x0 x1=some r):PU 142 [Q2 x0,Q2 x1] (eB r):=
 Pu2 (hs:=[(7,.c eI)]) ((kC (sh:=eI) (Sm x0 x1) fun v0=>(kEr (enc:=eB) (v0==(0:Int)))) h)
def Gm(x0:Q1):Option Bool:=
 some ((KG.mk (0:Int) [] (gVal.mk (0:Int) (0:Int)) (Q6.mk (0:Int) (0:Int) (0:Int) (0:Int) (0:Int)) (gLin.mk (0:Int) []) [] []:Q1))>>=fun v0=>
 Li x0 v0>>=fun v1=>
 some v1
theorem EJ(x0:Q1)(r:Bool)(h:Gm x0=some r):PU 119 [Q2 x0] (eB r):=
 Pu2 (hs:=[(4,.n Q2 4 none),(5,.c eB)]) ((kW (sh:=Q2) (KG.mk (0:Int) [] (gVal.mk (0:Int) (0:Int)) (Q6.mk (0:Int) (0:Int) (0:Int) (0:Int) (0:Int)) (gLin.mk (0:Int) []) [] []:Q1) (LeV.agg (.cons (LeV.refl (ii (0:Int))) (.cons (LeV.refl (AV.str [])) (.cons (LeV.refl (ii (0:Int))) (.cons (LeV.refl (ii (0:Int))) (.cons (LeV.refl (ii (0:Int))) (.cons (LeV.refl (ii (0:Int))) (.cons (LeV.refl (ii (0:Int))) (.cons (LeV.refl (ii (0:Int))) (.cons (LeV.refl (ii (0:Int))) (.cons (LeV.refl (ii (0:Int))) (.cons (LeV.nil 2) (.cons (LeV.nil 4) (.cons (LeV.nil 13) .nil)))))))))))))) fun v0=>(kC (sh:=eB) (Oo x0 v0) fun v1=>(kEr (enc:=eB) v1))) h)
def JW(s:Qw)(u:Unit)(o:(Bool×Bool×Bool)):List Alt:=[⟨fun(x:(Bool×Bool×Bool))=>x=o,.normal,fun x=>[.ptr 0 0 0,.bool (x.1),.bool (x.2.1),.bool (x.2.2)],fun x=>[.cells 0 (Qx s).cells]⟩]
def Yd(s:Qw)(u:(Bool×Bool×Bool))(o:Bool):List Alt:=jb o (fun b=>[.ptr 0 0 0,.bool (u.1),.bool (u.2.1),.bool (u.2.2),.bool b]) [.cells 0 (Qx s).cells]
def KL(s:Qw)(u:(Bool×Bool))(o:Bool):List Alt:=jb o (fun b=>[.ptr 0 0 0,.bool (u.1),.bool (u.2),.bool b]) [.cells 0 (Qx s).cells]
def Ye(s:Qw)(u:(Bool×Bool))(o:Bool):List Alt:=jb o (fun b=>[.ptr 0 0 0,.bool (u.1),.bool (u.2),.bool b]) [.cells 0 (Qx s).cells]
def KM(s:Qw)(u:(Bool×Bool))(o:Bool):List Alt:=jb o (fun b=>[.ptr 0 0 0,.bool (u.1),.bool (u.2),.bool b]) [.cells 0 (Qx s).cells]
def KN(s:Qw)(u:(Bool×Bool))(o:Bool):List Alt:=jb o (fun b=>[.ptr 0 0 0,.bool (u.1),.bool (u.2),.bool b]) [.cells 0 (Qx s).cells]
def KO(s:Qw)(u:Bool)(o:Bool):List Alt:=jb o (fun b=>[.ptr 0 0 0,.bool u,.bool b]) [.cells 0 (Qx s).cells]
def Gn(x0:Qw):Option Bool:=
 some ()>>=fun v0=>
 (if x0.fOp==(2:Int) then
 some ((x0.fOp==(1:Int)),true,(x0.fOp==(4:Int)))
 else
 some ((x0.fOp==(1:Int)),(x0.fOp==(3:Int)),(x0.fOp==(4:Int))))>>=fun v2=>
 some (v2.fst,v2.snd.fst,v2.snd.snd)>>=fun v3=>
 (if v2.fst then
 some false
 else
 if v2.snd.fst then
 some false
 else
 if v2.snd.snd then
 some false
 else
 some true)>>=fun v4=>if v4 then
 some false
 else
 some (v3.fst,v3.snd.fst)>>=fun v7=>
 (if v3.snd.snd then
 if !x0.fName==[] then
 some true
 else
 some false
 else
 some false)>>=fun v8=>if v8 then
 some false
 else
 some (v7.fst,v7.snd)>>=fun a6=>
 (if v7.fst then
 some false
 else
 if x0.fMany !=(0:Int) then
 some true
 else
 if x0.fMark !=(0:Int) then
 some true
 else
 some false)>>=fun a8=>if a8 then
 some false
 else
 some (a6.fst,a6.snd)>>=fun a4=>
 (if x0.fOp !=(3:Int) then
 if x0.fFold !=(0:Int) then
 some true
 else
 some false
 else
 some false)>>=fun a9=>if a9 then
 some false
 else
 some (a4.fst,a4.snd)>>=fun a7=>
 (if a4.snd then
 some false
 else
 some (List.length x0.fIdx:Int)>>=fun ab=>
 if(0:Int)<ab then
 some true
 else
 some false)>>=fun aa=>if aa then
 some false
 else
 some a7.snd>>=fun ac=>
 (if a7.fst then
 Gm x0.fExpr>>=fun ae=>if ae then
 some false
 else
 some true
 else
 some false)>>=fun ad=>if ad then
 some false
 else
 if ac then
 some (List.length x0.fBody:Int)>>=fun af=>
 some (af==(0:Int))
 else
 some true
theorem EK(x0:Qw)(r:Bool)(h:Gn x0=some r):PU 96 [Qx x0] (eB r):=
 Pu2 (hs:=[(11,.split),(21,.split),(24,.split),(28,.split),(32,.split),(36,.split),(39,.split),(44,.split),(48,.split),(54,.split),(58,.split),(61,.split),(66,.n eI 66 none),(67,.split),(70,.split),(74,.cb),(77,.split),(82,.n eI 82 none),(5000001,.l [] [] [] [1,3,4,5] [kk 1] (JW x0)),(5000002,.l [] [] [] [1,3,4,5,20] [kk 1] (Yd x0)),(5000004,.l [] [] [] [1,3,4,31] [kk 1] (KL x0)),(5000006,.l [] [] [] [1,3,4,38] [kk 1] (Ye x0)),(5000008,.l [] [] [] [1,3,4,51] [kk 1] (KM x0)),(5000010,.l [] [] [] [1,3,4,60] [kk 1] (KN x0)),(5000012,.l [] [] [] [1,4,69] [kk 1] (KO x0))]) ((kJ1 (id:=5000001) () (fun v0 af v1=>(kIf (c:=x0.fOp==(2:Int)) (kXj (alts:=JW x0) af ((x0.fOp==(1:Int)),true,(x0.fOp==(4:Int))) (.here _ rfl (.refl _) (.refl _)))
 (kXj (alts:=JW x0) af ((x0.fOp==(1:Int)),(x0.fOp==(3:Int)),(x0.fOp==(4:Int))) (.here _ rfl (.refl _) (.refl _)))))
 (fun v0 v2=>(kJb (id:=5000002) (v2.fst,v2.snd.fst,v2.snd.snd) (fun v3 a9 v4=>(kIf (c:=v2.fst) (kXj (alts:=Yd x0) a9 false (.next (.here () rfl (.refl _) (.refl _))))
 (kIf (c:=v2.snd.fst) (kXj (alts:=Yd x0) a9 false (.next (.here () rfl (.refl _) (.refl _))))
 (kIf (c:=v2.snd.snd) (kXj (alts:=Yd x0) a9 false (.next (.here () rfl (.refl _) (.refl _))))
 (kXj (alts:=Yd x0) a9 true (.here () rfl (.refl _) (.refl _)))))))
 (fun v3=>(kEr (enc:=eB) false))
 (fun v3=>(kJb (id:=5000004) (v3.fst,v3.snd.fst) (fun v7 ac v8=>(kIf (c:=v3.snd.snd) (kIf (c:= !x0.fName==[]) (kXj (alts:=KL x0) ac true (.here () rfl (.refl _) (.refl _)))
 (kXj (alts:=KL x0) ac false (.next (.here () rfl (.refl _) (.refl _)))))
 (kXj (alts:=KL x0) ac false (.next (.here () rfl (.refl _) (.refl _))))))
 (fun v7=>(kEr (enc:=eB) false))
 (fun v7=>(kJb (id:=5000006) (v7.fst,v7.snd) (fun aa a4 am=>(kIf (c:=v7.fst) (kXj (alts:=Ye x0) a4 false (.next (.here () rfl (.refl _) (.refl _))))
 (kIf (c:=x0.fMany !=(0:Int)) (kXj (alts:=Ye x0) a4 true (.here () rfl (.refl _) (.refl _)))
 (kIf (c:=x0.fMark !=(0:Int)) (kXj (alts:=Ye x0) a4 true (.here () rfl (.refl _) (.refl _)))
 (kXj (alts:=Ye x0) a4 false (.next (.here () rfl (.refl _) (.refl _))))))))
 (fun aa=>(kEr (enc:=eB) false))
 (fun aa=>(kJb (id:=5000008) (aa.fst,aa.snd) (fun a8 a5 ao=>(kIf (c:=x0.fOp !=(3:Int)) (kIf (c:=x0.fFold !=(0:Int)) (kXj (alts:=KM x0) a5 true (.here () rfl (.refl _) (.refl _)))
 (kXj (alts:=KM x0) a5 false (.next (.here () rfl (.refl _) (.refl _)))))
 (kXj (alts:=KM x0) a5 false (.next (.here () rfl (.refl _) (.refl _))))))
 (fun a8=>(kEr (enc:=eB) false))
 (fun a8=>(kJb (id:=5000010) (a8.fst,a8.snd) (fun ab a6 ap=>(kIf (c:=a8.snd) (kXj (alts:=KN x0) a6 false (.next (.here () rfl (.refl _) (.refl _))))
 (kN _ (mLen (sh:=Q7) x0.fIdx) fun ai=>(kIfD (p:=(0:Int)<ai) (kXj (alts:=KN x0) a6 true (.here () rfl (.refl _) (.refl _)))
 (kXj (alts:=KN x0) a6 false (.next (.here () rfl (.refl _) (.refl _))))))))
 (fun ab=>(kEr (enc:=eB) false))
 (fun ab=>(kJb (id:=5000012) ab.snd (fun ad a7 aq=>(kIf (c:=ab.fst) (kCb (EJ x0.fExpr) (kXj (alts:=KO x0) a7 false (.next (.here () rfl (.refl _) (.refl _))))
 (kXj (alts:=KO x0) a7 true (.here () rfl (.refl _) (.refl _))))
 (kXj (alts:=KO x0) a7 false (.next (.here () rfl (.refl _) (.refl _))))))
 (fun ad=>(kEr (enc:=eB) false))
 (fun ad=>(kIf (c:=ad) (kN _ (mLen (sh:=Qh) x0.fBody) fun aj=>(kEr (enc:=eB) (aj==(0:Int))))
 (kEr (enc:=eB) true)))))))))))))))) h)
def JM(x0:Q9):Option Q9:=
 Xe x0.fDims>>=fun v0=>
 some (Q9.mk x0.fName x0.fType v0 x0.fUse)
theorem Ly(x0:Q9)(r:Q9)(h:JM x0=some r):PU 143 [Q5 x0] (Q5 r):=
 Pu2 (hs:=[(5,.c eLI)]) ((kC (sh:=eLI) (Dx x0.fDims) fun v0=>(kEr (enc:=Q5) (Q9.mk x0.fName x0.fType v0 x0.fUse))) h)
def YY(s:(Str×Qd))(u:Int)(o:Q9 ⊕ (Q9×Bool)):List Alt:=[⟨fun(x:Q9)=>(Sum.inl x:Q9 ⊕ (Q9×Bool))=o,.exit 0,fun x=>[.ptr 0 0 0,.undef],fun x=>[.cells 0 (Q5 x).cells]⟩,⟨fun(x:(Q9×Bool))=>(Sum.inr x:Q9 ⊕ (Q9×Bool))=o,.ret,fun x=>[.ptr 0 0 0,.bool x.2],fun x=>[.cells 0 (Q5 x.1).cells]⟩]
def ZL(x1:Str)(x2:Qd)(x4:Q9)(x9:Int)(a3:Int):Option (Q9 ⊕ (Q9×Bool)):=
 if a3<x9 then
 ix x2.fBufs a3>>=fun v0=>
 if v0.fName==x1 then
 ix x2.fBufs a3>>=fun v1=>
 JM v1>>=fun v2=>
 some (.inr (v2,true))
 else
 ZL x1 x2 x4 x9 (wr (a3+(1:Int)))
 else
 some (.inl x4)
 partial_fixpoint
theorem I6(x1:Str)(x2:Qd)(x4:Q9)(x9:Int)(a3:Int)(o:Q9 ⊕ (Q9×Bool))(h:ZL x1 x2 x4 x9 a3=some o):LO 120 2 29 [1,2,4,9,10] [.str x1,.ptr 0 0 0,.ptr 1 0 0,ii x9,ii a3] [.cells 0 (Qp x2).cells,.cells 0 (Q5 x4).cells] [4,5] (YY (x1,x2) x9 o):=
 ZL.partial_correctness x1 x2 x4 x9 (fun a3 o=>LO 120 2 29 [1,2,4,9,10] [.str x1,.ptr 0 0 0,.ptr 1 0 0,ii x9,ii a3] [.cells 0 (Qp x2).cells,.cells 0 (Q5 x4).cells] [4,5] (YY (x1,x2) x9 o))
 (fun ZL Q55 a3 o h=>
 Lp2 (hs:=[(11,.split),(16,.e Q5),(20,.split),(24,.e Q5),(26,.c Q5)]) (kb:=[kk 2,kk 4]) (kbx:=[kk 4]) ((kIfD (p:=a3<x9) (kIx (enc:=Q5) (l:=x2.fBufs) (k:=a3) fun v0=>(kIf (c:=v0.fName==x1) (kIx (enc:=Q5) (l:=x2.fBufs) (k:=a3) fun v1=>(kC (sh:=Q5) (Ly v1) fun v2=>(kX (alts:=YY (x1,x2) x9) (.inr (v2,true)) (.next (.here _ rfl (.refl _) (.refl _))))))
 (kM0 (alts:=YY (x1,x2) x9) (Q55 (wr (a3+(1:Int)))))))
 (kX (alts:=YY (x1,x2) x9) (.inl x4) (.here _ rfl (.refl _) (.refl _)))) h)) a3 o h
def Yp(x0:Qd)(x1:Str):Option (Q9×Bool):=
 some (List.length x0.fBufs:Int)>>=fun v0=>
 some v0>>=fun v1=>
 ZL x1 x0 (Q9.mk [] (Q6.mk (0:Int) (0:Int) (0:Int) (0:Int) (0:Int)) [] (0:Int)) v0 (0:Int)>>=fun v2=>(match v2 with
 | (.inl v3)=>
 some ((Q9.mk [] (Q6.mk (0:Int) (0:Int) (0:Int) (0:Int) (0:Int)) [] (0:Int)))>>=fun v4=>
 some (v4,false)
 | (.inr v5)=>
 some (v5.fst,v5.snd))
theorem U2(x0:Qd)(x1:Str)(r:(Q9×Bool))(h:Yp x0 x1=some r):PU 120 [Qp x0,eS x1] (QD r):=
 Pu2 (hs:=[(9,.n eI 9 none),(28,.n Q5 28 none),(3000003,.l [] [1,2,4,9,10] [kk 2,kk 4] [4,5] [kk 4] (YY (x1,x0)))]) ((kN _ (mLen (sh:=Q5) x0.fBufs) fun v0=>(kL2 v0 (hL:=(fun y hy=>Yg.le (.cons (LeV.refl (AV.str x1)) (.cons (LeV.refl (AV.ptr (0:Nat) (0:Nat) (0:Nat))) (.cons (LeV.refl (AV.ptr (1:Nat) (0:Nat) (0:Nat))) (.cons (LeV.refl (ii v0)) (.cons (LeV.refl (ii (0:Int))) .nil))))) (.cons (LeB.refl (Box.cells (0:Nat) [AV.sl (8:Nat) (List.map Q5 x0.fBufs),AV.sl (20:Nat) (List.map Qh x0.fBody)])) (.cons (LeB.cells (0:Nat) (.cons (LeV.refl (AV.str [])) (.cons (LeV.refl (ii (0:Int))) (.cons (LeV.refl (ii (0:Int))) (.cons (LeV.refl (ii (0:Int))) (.cons (LeV.refl (ii (0:Int))) (.cons (LeV.refl (ii (0:Int))) (.cons (LeV.nil 1) (.cons (LeV.refl (ii (0:Int))) .nil))))))))) .nil)) (I6 x1 x0 (Q9.mk [] (Q6.mk (0:Int) (0:Int) (0:Int) (0:Int) (0:Int)) [] (0:Int)) v0 (0:Int) y hy))) (hA:=fun v1 v3=>(kW (sh:=Q5) (Q9.mk [] (Q6.mk (0:Int) (0:Int) (0:Int) (0:Int) (0:Int)) [] (0:Int)) (LeV.agg (.cons (LeV.refl (AV.str [])) (.cons (LeV.refl (ii (0:Int))) (.cons (LeV.refl (ii (0:Int))) (.cons (LeV.refl (ii (0:Int))) (.cons (LeV.refl (ii (0:Int))) (.cons (LeV.refl (ii (0:Int))) (.cons (LeV.nil 1) (.cons (LeV.refl (ii (0:Int))) .nil))))))))) fun v4=>(kEr (enc:=QD) (v4,false))))
 (hB:=fun v1 v5=>(kEr (enc:=QD) (v5.fst,v5.snd))))) h)
def XZ(s:Qw)(u:Unit)(o:Bool):List Alt:=jb o (fun b=>[.ptr 0 0 0,.bool b]) [.cells 0 (Qx s).cells]
def Zx(s:Unit)(u:Unit)(o:Bool):List Alt:=jb o (fun b=>[.bool b]) []
def Vz(x0:Q0)(x1:Qw):Option Int:=
 VU x1.fName>>=fun v0=>if v0 then
 Yp x0.fnest x1.fName>>=fun v1=>
 some ()>>=fun v2=>
 (if v1.snd then
 some true
 else
 XP x0.floops x1.fName>>=fun v4=>if v4 then
 some true
 else
 some false)>>=fun v3=>if v3 then
 some (8:Int)
 else
 some ()>>=fun v7=>
 (if x1.fMany< (1:Int) then
 some true
 else
 if(65536:Int)<x1.fMany then
 some true
 else
 if x1.fMark< (0:Int) then
 some true
 else
 if(3:Int)<x1.fMark then
 some true
 else
 some false)>>=fun v8=>if v8 then
 some (1:Int)
 else
 some (0:Int)
 else
 some (7:Int)
theorem L4(x0:Q0)(x1:Qw)(r:Int)(h:Vz x0 x1=some r):PU 97 [.ip 5 [.agg [.sl 8 (List.map Q5 x0.fnest.fBufs),.sl 20 (List.map Qh x0.fnest.fBody),.sl 1 (List.map eS x0.floops),.sl 1 (List.map eS x0.fscope),.sl 1 (List.map eI x0.fpath)]] 0 0,Qx x1] (eI r):=
 Pu2 (hs:=[(9,.cb),(18,.c QD),(21,.split),(29,.cb),(33,.split),(37,.split),(42,.split),(47,.split),(5000004,.l [] [] [] [3,30] [kk 3] (XZ x1)),(5000006,.l [] [] [] [48] [] (Zx ()))]) ((kCb (C5 x1.fName) (kC (sh:=QD) (U2 x0.fnest x1.fName) fun v1=>(kJb (id:=5000004) () (fun v2 a6 v3=>(kIf (c:=v1.snd) (kXj (alts:=XZ x1) a6 true (.here () rfl (.refl _) (.refl _)))
 (kCb (Uy x0.floops x1.fName) (kXj (alts:=XZ x1) a6 true (.here () rfl (.refl _) (.refl _)))
 (kXj (alts:=XZ x1) a6 false (.next (.here () rfl (.refl _) (.refl _)))))))
 (fun v2=>(kEr (enc:=eI) (8:Int)))
 (fun v2=>(kJb (id:=5000006) () (fun v7 a4 v8=>(kIfD (p:=x1.fMany< (1:Int)) (kXj (alts:=Zx ()) a4 true (.here () rfl (.refl _) (.refl _)))
 (kIfD (p:=(65536:Int)<x1.fMany) (kXj (alts:=Zx ()) a4 true (.here () rfl (.refl _) (.refl _)))
 (kIfD (p:=x1.fMark< (0:Int)) (kXj (alts:=Zx ()) a4 true (.here () rfl (.refl _) (.refl _)))
 (kIfD (p:=(3:Int)<x1.fMark) (kXj (alts:=Zx ()) a4 true (.here () rfl (.refl _) (.refl _)))
 (kXj (alts:=Zx ()) a4 false (.next (.here () rfl (.refl _) (.refl _)))))))))
 (fun v7=>(kEr (enc:=eI) (1:Int)))
 (fun v7=>(kEr (enc:=eI) (0:Int)))))))
 (kEr (enc:=eI) (7:Int))) h)
def YU(x0:Q1):Option Bool:=
 if(13:Int)≤x0.fOp then
 some (decide (x0.fOp≤(18:Int)))
 else
 some false
theorem G0(x0:Q1)(r:Bool)(h:YU x0=some r):PU 99 [Q2 x0] (eB r):=
 Pu2 (hs:=[(5,.split)]) ((kIfD (p:=(13:Int)≤x0.fOp) (kEr (enc:=eB) (decide (x0.fOp≤(18:Int))))
 (kEr (enc:=eB) false)) h)
def VV(x0:Zu)(x1:Q0):Option Bool:=
 XP x1.fscope x0.fName>>=fun v0=>
 some (!v0)
theorem Nh(x0:Zu)(x1:Q0)(r:Bool)(h:VV x0 x1=some r):PU 183 [Qq x0,.ip 1 [.agg [.ip 5 [.agg [.sl 8 (List.map Q5 x1.fnest.fBufs),.sl 20 (List.map Qh x1.fnest.fBody),.sl 1 (List.map eS x1.floops),.sl 1 (List.map eS x1.fscope),.sl 1 (List.map eI x1.fpath)]] 0 0]] 0 0] (eB r):=
 Pu2 (hs:=[(10,.c eB)]) ((kC (sh:=eB) (Uy x1.fscope x0.fName) fun v0=>(kEr (enc:=eB) (!v0))) h)
def Zh(s:((List Zu)×Q0))(u:Int)(o:Unit ⊕ Int):List Alt:=[⟨fun(x:Unit)=>(Sum.inl x:Unit ⊕ Int)=o,.exit 0,fun x=>[.undef],fun x=>[]⟩,⟨fun(x:Int)=>(Sum.inr x:Unit ⊕ Int)=o,.ret,fun x=>[ii x],fun x=>[]⟩]
def QY(x0:List Zu)(x1:Q0)(x7:Int)(x8:Int):Option (Unit ⊕ Int):=
 if x8<x7 then
 ix x0 x8>>=fun v0=>
 VV v0 x1>>=fun v1=>if v1 then
 some (.inr x8)
 else
 QY x0 x1 x7 (wr (x8+(1:Int)))
 else
 some (.inl ())
 partial_fixpoint
theorem C8(x0:List Zu)(x1:Q0)(x7:Int)(x8:Int)(o:Unit ⊕ Int)(h:QY x0 x1 x7 x8=some o):LO 223 2 19 [0,1,7,8] [.sl 2 (List.map Qq x0),.fn 183 [.ip 1 [.agg [.ip 5 [.agg [.sl 8 (List.map Q5 x1.fnest.fBufs),.sl 20 (List.map Qh x1.fnest.fBody),.sl 1 (List.map eS x1.floops),.sl 1 (List.map eS x1.fscope),.sl 1 (List.map eI x1.fpath)]] 0 0]] 0 0],ii x7,ii x8] [] [4] (Zh (x0,x1) x7 o):=
 QY.partial_correctness x0 x1 x7 (fun x8 o=>LO 223 2 19 [0,1,7,8] [.sl 2 (List.map Qq x0),.fn 183 [.ip 1 [.agg [.ip 5 [.agg [.sl 8 (List.map Q5 x1.fnest.fBufs),.sl 20 (List.map Qh x1.fnest.fBody),.sl 1 (List.map eS x1.floops),.sl 1 (List.map eS x1.fscope),.sl 1 (List.map eI x1.fpath)]] 0 0]] 0 0],ii x7,ii x8] [] [4] (Zh (x0,x1) x7 o))
 (fun QY Q71 x8 o h=>
 Lp2 (hs:=[(9,.split),(14,.e Qq),(16,.cb)]) (kb:=[]) (kbx:=[]) ((kIfD (p:=x8<x7) (kIx (enc:=Qq) (l:=x0) (k:=x8) fun v0=>(kCb (Nh v0 x1) (kX (alts:=Zh (x0,x1) x7) (.inr x8) (.next (.here _ rfl (.refl _) (.refl _))))
 (kM0 (alts:=Zh (x0,x1) x7) (Q71 (wr (x8+(1:Int)))))))
 (kX (alts:=Zh (x0,x1) x7) (.inl ()) (.here _ rfl (.refl _) (.refl _)))) h)) x8 o h
def KR(x0:List Zu)(x1:Q0):Option Int:=
 some (List.length x0:Int)>>=fun v0=>
 some v0>>=fun v1=>
 QY x0 x1 v0 (0:Int)>>=fun v2=>(match v2 with
 | (.inl v3)=>
 some (-1:Int)
 | (.inr v4)=>
 some v4)
theorem Wb(x0:List Zu)(x1:Q0)(r:Int)(h:KR x0 x1=some r):PU 223 [E9 x0,.fn 183 [.ip 1 [.agg [.ip 5 [.agg [.sl 8 (List.map Q5 x1.fnest.fBufs),.sl 20 (List.map Qh x1.fnest.fBody),.sl 1 (List.map eS x1.floops),.sl 1 (List.map eS x1.fscope),.sl 1 (List.map eI x1.fpath)]] 0 0]] 0 0]] (eI r):=
 Pu2 (hs:=[(7,.n eI 7 none),(3000003,.l [] [0,1,7,8] [] [4] [] (Zh (x0,x1)))]) ((kN _ (mLen (sh:=Qq) x0) fun v0=>(kL2 v0 (hL:=(C8 x0 x1 v0 (0:Int))) (hA:=fun v1 v3=>(kEr (enc:=eI) (-1:Int)))
 (hB:=fun v1 v4=>(kEr (enc:=eI) v4)))) h)
def Xs(x0:List Zu)(x1:Q0):Option Bool:=
 KR x0 x1>>=fun v0=>
 some (decide ((0:Int)≤v0))
theorem C7(x0:List Zu)(x1:Q0)(r:Bool)(h:Xs x0 x1=some r):PU 182 [E9 x0,.fn 183 [.ip 1 [.agg [.ip 5 [.agg [.sl 8 (List.map Q5 x1.fnest.fBufs),.sl 20 (List.map Qh x1.fnest.fBody),.sl 1 (List.map eS x1.floops),.sl 1 (List.map eS x1.fscope),.sl 1 (List.map eI x1.fpath)]] 0 0]] 0 0]] (eB r):=
 Pu2 (hs:=[(7,.c eI)]) ((kC (sh:=eI) (Wb x0 x1) fun v0=>(kEr (enc:=eB) (decide ((0:Int)≤v0)))) h)
def X7(x0:Q0)(x1:gLin):Option Bool:=
 Xs x1.fL x0>>=fun v0=>
 some (!v0)
theorem JZ(x0:Q0)(x1:gLin)(r:Bool)(h:X7 x0 x1=some r):PU 149 [.ip 5 [.agg [.sl 8 (List.map Q5 x0.fnest.fBufs),.sl 20 (List.map Qh x0.fnest.fBody),.sl 1 (List.map eS x0.floops),.sl 1 (List.map eS x0.fscope),.sl 1 (List.map eI x0.fpath)]] 0 0,Qg x1] (eB r):=
 Pu2 (hs:=[(7,.z [{slot:=2,fz:=true}] none),(8,.c eB),(3,.z [{slot:=2,fz:=true}] none)]) ((kC (sh:=eB) (C7 x1.fL x0) fun v0=>(kEr (enc:=eB) (!v0))) h)
def Ub(x0:gLin)(x1:Q0):Option Bool:=
 X7 x1 x0>>=fun v0=>
 some (!v0)
theorem Ma(x0:gLin)(x1:Q0)(r:Bool)(h:Ub x0 x1=some r):PU 151 [Qg x0,.ip 1 [.agg [.ip 5 [.agg [.sl 8 (List.map Q5 x1.fnest.fBufs),.sl 20 (List.map Qh x1.fnest.fBody),.sl 1 (List.map eS x1.floops),.sl 1 (List.map eS x1.fscope),.sl 1 (List.map eI x1.fpath)]] 0 0]] 0 0] (eB r):=
 Pu2 (hs:=[(6,.c eB)]) ((kC (sh:=eB) (JZ x1 x0) fun v0=>(kEr (enc:=eB) (!v0))) h)
def Zp(s:((List gLin)×Q0))(u:Int)(o:Unit ⊕ Int):List Alt:=[⟨fun(x:Unit)=>(Sum.inl x:Unit ⊕ Int)=o,.exit 0,fun x=>[.undef],fun x=>[]⟩,⟨fun(x:Int)=>(Sum.inr x:Unit ⊕ Int)=o,.ret,fun x=>[ii x],fun x=>[]⟩]
def QZ(x0:List gLin)(x1:Q0)(x7:Int)(x8:Int):Option (Unit ⊕ Int):=
 if x8<x7 then
 ix x0 x8>>=fun v0=>
 Ub v0 x1>>=fun v1=>if v1 then
 some (.inr x8)
 else
 QZ x0 x1 x7 (wr (x8+(1:Int)))
 else
 some (.inl ())
 partial_fixpoint
theorem Cu(x0:List gLin)(x1:Q0)(x7:Int)(x8:Int)(o:Unit ⊕ Int)(h:QZ x0 x1 x7 x8=some o):LO 184 2 19 [0,1,7,8] [.sl 2 (List.map Qg x0),.fn 151 [.ip 1 [.agg [.ip 5 [.agg [.sl 8 (List.map Q5 x1.fnest.fBufs),.sl 20 (List.map Qh x1.fnest.fBody),.sl 1 (List.map eS x1.floops),.sl 1 (List.map eS x1.fscope),.sl 1 (List.map eI x1.fpath)]] 0 0]] 0 0],ii x7,ii x8] [] [4] (Zp (x0,x1) x7 o):=
 QZ.partial_correctness x0 x1 x7 (fun x8 o=>LO 184 2 19 [0,1,7,8] [.sl 2 (List.map Qg x0),.fn 151 [.ip 1 [.agg [.ip 5 [.agg [.sl 8 (List.map Q5 x1.fnest.fBufs),.sl 20 (List.map Qh x1.fnest.fBody),.sl 1 (List.map eS x1.floops),.sl 1 (List.map eS x1.fscope),.sl 1 (List.map eI x1.fpath)]] 0 0]] 0 0],ii x7,ii x8] [] [4] (Zp (x0,x1) x7 o))
 (fun QZ Q70 x8 o h=>
 Lp2 (hs:=[(9,.split),(14,.e Qg),(16,.cb)]) (kb:=[]) (kbx:=[]) ((kIfD (p:=x8<x7) (kIx (enc:=Qg) (l:=x0) (k:=x8) fun v0=>(kCb (Ma v0 x1) (kX (alts:=Zp (x0,x1) x7) (.inr x8) (.next (.here _ rfl (.refl _) (.refl _))))
 (kM0 (alts:=Zp (x0,x1) x7) (Q70 (wr (x8+(1:Int)))))))
 (kX (alts:=Zp (x0,x1) x7) (.inl ()) (.here _ rfl (.refl _) (.refl _)))) h)) x8 o h
def V6(x0:List gLin)(x1:Q0):Option Int:=
 some (List.length x0:Int)>>=fun v0=>
 some v0>>=fun v1=>
 QZ x0 x1 v0 (0:Int)>>=fun v2=>(match v2 with
 | (.inl v3)=>
 some (-1:Int)
 | (.inr v4)=>
 some v4)
theorem Wp(x0:List gLin)(x1:Q0)(r:Int)(h:V6 x0 x1=some r):PU 184 [GD x0,.fn 151 [.ip 1 [.agg [.ip 5 [.agg [.sl 8 (List.map Q5 x1.fnest.fBufs),.sl 20 (List.map Qh x1.fnest.fBody),.sl 1 (List.map eS x1.floops),.sl 1 (List.map eS x1.fscope),.sl 1 (List.map eI x1.fpath)]] 0 0]] 0 0]] (eI r):=
 Pu2 (hs:=[(7,.n eI 7 none),(3000003,.l [] [0,1,7,8] [] [4] [] (Zp (x0,x1)))]) ((kN _ (mLen (sh:=Qg) x0) fun v0=>(kL2 v0 (hL:=(Cu x0 x1 v0 (0:Int))) (hA:=fun v1 v3=>(kEr (enc:=eI) (-1:Int)))
 (hB:=fun v1 v4=>(kEr (enc:=eI) v4)))) h)
def XH(x0:List gLin)(x1:Q0):Option Bool:=
 V6 x0 x1>>=fun v0=>
 some (decide ((0:Int)≤v0))
theorem Ct(x0:List gLin)(x1:Q0)(r:Bool)(h:XH x0 x1=some r):PU 150 [GD x0,.fn 151 [.ip 1 [.agg [.ip 5 [.agg [.sl 8 (List.map Q5 x1.fnest.fBufs),.sl 20 (List.map Qh x1.fnest.fBody),.sl 1 (List.map eS x1.floops),.sl 1 (List.map eS x1.fscope),.sl 1 (List.map eI x1.fpath)]] 0 0]] 0 0]] (eB r):=
 Pu2 (hs:=[(7,.c eI)]) ((kC (sh:=eI) (Wp x0 x1) fun v0=>(kEr (enc:=eB) (decide ((0:Int)≤v0)))) h)
def Z0(s:Q0)(u:((List Qi)×Int))(o:Unit ⊕ Int):List Alt:=[⟨fun(x:Unit)=>(Sum.inl x:Unit ⊕ Int)=o,.exit 2,fun x=>[.undef],fun x=>[]⟩,⟨fun(x:Int)=>(Sum.inr x:Unit ⊕ Int)=o,.ret,fun x=>[ii x],fun x=>[]⟩]
def QK(x2:Q0)(a4:List Qi)(a5:Int)(a3:Int):Option (Unit ⊕ Int):=
 if a3<a5 then
 ix a4 a3>>=fun v0=>
 if v0.fFrom==[] then
 QK x2 a4 a5 (wr (a3+(1:Int)))
 else
 Yp x2.fnest v0.fFrom>>=fun v1=>
 if v1.snd then
 if v1.fst.fType.fKind !=(3:Int) then
 some (.inr (10:Int))
 else
 some (List.length v1.fst.fDims:Int)>>=fun v2=>
 some (List.length v0.fAt:Int)>>=fun v3=>
 if v2 !=v3 then
 some (.inr (11:Int))
 else
 QK x2 a4 a5 (wr (a3+(1:Int)))
 else
 some (.inr (9:Int))
 else
 some (.inl ())
 partial_fixpoint
theorem NK(x2:Q0)(a3:List Qi)(a4:Int)(a6:Int)(o:Unit ⊕ Int)(h:QK x2 a3 a4 a6=some o):LO 123 17 100 [2,64,65,66] [.ip 1 [.agg [.ip 5 [.agg [.sl 8 (List.map Q5 x2.fnest.fBufs),.sl 20 (List.map Qh x2.fnest.fBody),.sl 1 (List.map eS x2.floops),.sl 1 (List.map eS x2.fscope),.sl 1 (List.map eI x2.fpath)]] 0 0]] 0 0,.sl 4 (List.map Q7 a3),ii a4,ii a6] [] [4] (Z0 x2 (a3,a4) o):=
 QK.partial_correctness x2 a3 a4 (fun a6 o=>LO 123 17 100 [2,64,65,66] [.ip 1 [.agg [.ip 5 [.agg [.sl 8 (List.map Q5 x2.fnest.fBufs),.sl 20 (List.map Qh x2.fnest.fBody),.sl 1 (List.map eS x2.floops),.sl 1 (List.map eS x2.fscope),.sl 1 (List.map eI x2.fpath)]] 0 0]] 0 0,.sl 4 (List.map Q7 a3),ii a4,ii a6] [] [4] (Z0 x2 (a3,a4) o))
 (fun QK Q57 a6 o h=>
 Lp2 (hs:=[(67,.split),(68,.e Q7),(72,.split),(80,.c QD),(84,.split),(90,.split),(94,.n eI 94 none),(97,.n eI 97 none),(98,.split)]) (kb:=[]) (kbx:=[]) ((kIfD (p:=a6<a4) (kIx (enc:=Q7) (l:=a3) (k:=a6) fun v0=>(kIf (c:=v0.fFrom==[]) (kM0 (alts:=Z0 x2 (a3,a4)) (Q57 (wr (a6+(1:Int)))))
 (kC (sh:=QD) (U2 x2.fnest v0.fFrom) fun v1=>(kIf (c:=v1.snd) (kIf (c:=v1.fst.fType.fKind !=(3:Int)) (kX (alts:=Z0 x2 (a3,a4)) (.inr (10:Int)) (.next (.here _ rfl (.refl _) (.refl _))))
 (kN _ (mLen (sh:=eI) v1.fst.fDims) fun v2=>(kN _ (mLen (sh:=Qg) v0.fAt) fun v3=>(kIf (c:=v2 !=v3) (kX (alts:=Z0 x2 (a3,a4)) (.inr (11:Int)) (.next (.here _ rfl (.refl _) (.refl _))))
 (kM0 (alts:=Z0 x2 (a3,a4)) (Q57 (wr (a6+(1:Int)))))))))
 (kX (alts:=Z0 x2 (a3,a4)) (.inr (9:Int)) (.next (.here _ rfl (.refl _) (.refl _))))))))
 (kX (alts:=Z0 x2 (a3,a4)) (.inl ()) (.here _ rfl (.refl _) (.refl _)))) h)) a6 o h
def ZF(s:(Q0×Q1))(u:((List Qi)×Int))(o:Bool):List Alt:=[⟨fun(x:Bool)=>x=o,.exit 0,fun x=>[.ip 1 [.agg [.ip 5 [.agg [.sl 8 (List.map Q5 s.1.fnest.fBufs),.sl 20 (List.map Qh s.1.fnest.fBody),.sl 1 (List.map eS s.1.floops),.sl 1 (List.map eS s.1.fscope),.sl 1 (List.map eI s.1.fpath)]] 0 0]] 0 0,.ptr 0 0 0,.bool x],fun x=>[.cells 0 (Q2 s.2).cells]⟩]
def QF(x2:Q0)(x5:Bool)(a4:List Qi)(a5:Int)(a3:Int):Option Bool:=
 if a3<a5 then
 ix a4 a3>>=fun v0=>
 if x5 then
 X7 x2 v0.fLin>>=fun v1=>if v1 then
 XH v0.fAt x2>>=fun v2=>
 QF x2 (!v2) a4 a5 (wr (a3+(1:Int)))
 else
 QF x2 false a4 a5 (wr (a3+(1:Int)))
 else
 QF x2 false a4 a5 (wr (a3+(1:Int)))
 else
 some x5
 partial_fixpoint
theorem M5(x2:Q0)(x3:Q1)(x5:Bool)(a3:List Qi)(a4:Int)(a5:Int)(o:Bool)(h:QF x2 x5 a3 a4 a5=some o):LO 123 3 100 [2,3,5,18,19,20] [.ip 1 [.agg [.ip 5 [.agg [.sl 8 (List.map Q5 x2.fnest.fBufs),.sl 20 (List.map Qh x2.fnest.fBody),.sl 1 (List.map eS x2.floops),.sl 1 (List.map eS x2.fscope),.sl 1 (List.map eI x2.fpath)]] 0 0]] 0 0,.ptr 0 0 0,.bool x5,.sl 4 (List.map Q7 a3),ii a4,ii a5] [.cells 0 (Q2 x3).cells] [2,3,5] (ZF (x2,x3) (a3,a4) o):=
 QF.partial_correctness x2 a3 a4 (fun x5 a5 o=>∀(x3:Q1),LO 123 3 100 [2,3,5,18,19,20] [.ip 1 [.agg [.ip 5 [.agg [.sl 8 (List.map Q5 x2.fnest.fBufs),.sl 20 (List.map Qh x2.fnest.fBody),.sl 1 (List.map eS x2.floops),.sl 1 (List.map eS x2.fscope),.sl 1 (List.map eI x2.fpath)]] 0 0]] 0 0,.ptr 0 0 0,.bool x5,.sl 4 (List.map Q7 a3),ii a4,ii a5] [.cells 0 (Q2 x3).cells] [2,3,5] (ZF (x2,x3) (a3,a4) o))
 (fun QF Q58 x5 a5 o h x3=>
 Lp2 (hs:=[(21,.split),(22,.e Q7),(24,.split),(29,.cb),(34,.z [{slot:=2,fz:=true}] none),(35,.c eB)]) (kb:=[kk 3]) (kbx:=[kk 3]) ((kIfD (p:=a5<a4) (kIx (enc:=Q7) (l:=a3) (k:=a5) fun v0=>(kIf (c:=x5) (kCb (JZ x2 v0.fLin) (kC (sh:=eB) (Ct v0.fAt x2) fun v2=>(kM0 (alts:=ZF (x2,x3) (a3,a4)) (fun y hy=>Q58 (!v2) (wr (a5+(1:Int))) y hy x3)))
 (kM0 (alts:=ZF (x2,x3) (a3,a4)) (fun y hy=>Q58 false (wr (a5+(1:Int))) y hy x3)))
 (kM0 (alts:=ZF (x2,x3) (a3,a4)) (fun y hy=>Q58 false (wr (a5+(1:Int))) y hy x3))))
 (kX (alts:=ZF (x2,x3) (a3,a4)) x5 (.here _ rfl (.refl _) (.refl _)))) h)) x5 a5 o h x3
def VA(x0:Q0)(x1:Q1):Option Int:=
 X7 x0 x1.fLin>>=fun v0=>
 some (List.length x1.fIdx:Int)>>=fun v1=>
 some (x1.fIdx,v1)>>=fun v2=>
 QF x0 v0 x1.fIdx v1 (0:Int)>>=fun v4=>
 if v4 then
 if x1.fOp !=(3:Int) then
 some (0:Int)
 else
 Yp x0.fnest x1.fName>>=fun v5=>
 if v5.snd then
 some (List.length v5.fst.fDims:Int)>>=fun v6=>
 some (List.length x1.fIdx:Int)>>=fun v7=>
 if v6 !=v7 then
 some (11:Int)
 else
 some (List.length x1.fIdx:Int)>>=fun v8=>
 some (x1.fIdx,v8)>>=fun v9=>
 QK x0 x1.fIdx v8 (0:Int)>>=fun a5=>(match a5 with
 | (.inl v11)=>
 some (0:Int)
 | (.inr v12)=>
 some v12)
 else
 some (9:Int)
 else
 some (9:Int)
theorem L5(x0:Q0)(x1:Q1)(r:Int)(h:VA x0 x1=some r):PU 123 [.ip 5 [.agg [.sl 8 (List.map Q5 x0.fnest.fBufs),.sl 20 (List.map Qh x0.fnest.fBody),.sl 1 (List.map eS x0.floops),.sl 1 (List.map eS x0.fscope),.sl 1 (List.map eI x0.fpath)]] 0 0,Q2 x1] (eI r):=
 Pu2 (hs:=[(16,.c eB),(19,.n eI 19 none),(39,.split),(43,.split),(51,.c QD),(54,.split),(58,.n eI 58 none),(61,.n eI 61 none),(62,.split),(65,.n eI 65 none),(3,.z [{slot:=2,fz:=true}] none),(3000018,.l [] [2,64,65,66] [] [4] [] (Z0 x0)),(3000004,.l [] [2,3,5,18,19,20] [kk 3] [2,3,5] [kk 3] (ZF (x0,x1)))]) ((kC (sh:=eB) (JZ x0 x1.fLin) fun v0=>(kN _ (mLen (sh:=Q7) x1.fIdx) fun v1=>(kL1 (x1.fIdx,v1) (M5 x0 x1 v0 x1.fIdx v1 (0:Int)) fun v2 v4=>(kIf (c:=v4) (kIf (c:=x1.fOp !=(3:Int)) (kEr (enc:=eI) (0:Int))
 (kC (sh:=QD) (U2 x0.fnest x1.fName) fun v5=>(kIf (c:=v5.snd) (kN _ (mLen (sh:=eI) v5.fst.fDims) fun v6=>(kN _ (mLen (sh:=Q7) x1.fIdx) fun v7=>(kIf (c:=v6 !=v7) (kEr (enc:=eI) (11:Int))
 (kN _ (mLen (sh:=Q7) x1.fIdx) fun v8=>(kL2 (x1.fIdx,v8) (hL:=(NK x0 x1.fIdx v8 (0:Int))) (hA:=fun v9 aa=>(kEr (enc:=eI) (0:Int)))
 (hB:=fun v9 a5=>(kEr (enc:=eI) a5)))))))
 (kEr (enc:=eI) (9:Int)))))
 (kEr (enc:=eI) (9:Int)))))) h)
def ZV(s:(Q0×Q1))(u:((List Qb)×Int))(o:(Q6× (List Q6)) ⊕ (Q6×Int)):List Alt:=[⟨fun(x:(Q6× (List Q6)))=>(Sum.inl x:(Q6× (List Q6)) ⊕ (Q6×Int))=o,.exit 0,fun x=>[.ip 5 [.agg [.sl 8 (List.map Q5 s.1.fnest.fBufs),.sl 20 (List.map Qh s.1.fnest.fBody),.sl 1 (List.map eS s.1.floops),.sl 1 (List.map eS s.1.fscope),.sl 1 (List.map eI s.1.fpath)]] 0 0,.ptr 0 0 0,.ptr 1 0 0,.undef,.sl 5 (List.map Qc x.2)],fun x=>[.cells 0 (Q2 s.2).cells,.cells 0 (Qc x.1).cells]⟩,⟨fun(x:(Q6×Int))=>(Sum.inr x:(Q6× (List Q6)) ⊕ (Q6×Int))=o,.ret,fun x=>[.ip 5 [.agg [.sl 8 (List.map Q5 s.1.fnest.fBufs),.sl 20 (List.map Qh s.1.fnest.fBody),.sl 1 (List.map eS s.1.floops),.sl 1 (List.map eS s.1.fscope),.sl 1 (List.map eI s.1.fpath)]] 0 0,.ptr 0 0 0,.ptr 1 0 0,ii x.2,.undef],fun x=>[.cells 0 (Q2 s.2).cells,.cells 0 (Qc x.1).cells]⟩]
def Xy(s:(Q0×Q1))(u:(Q6× (List Q6)×Int))(o:Bool):List Alt:=jb o (fun b=>[.ip 5 [.agg [.sl 8 (List.map Q5 (s.1).fnest.fBufs),.sl 20 (List.map Qh (s.1).fnest.fBody),.sl 1 (List.map eS (s.1).floops),.sl 1 (List.map eS (s.1).fscope),.sl 1 (List.map eI (s.1).fpath)]] 0 0,.ptr 0 0 0,.ptr 1 0 0,.sl 5 (List.map Qc (u.2.1)),ii (u.2.2),.bool b]) [.cells 0 (Q2 (s.2)).cells,.cells 0 (Qc (u.1)).cells]
def ZG(s:Q1)(u:(Q6× (List Q6)))(o:Bool):List Alt:=jb o (fun b=>[.ptr 0 0 0,.ptr 1 0 0,.sl 5 (List.map Qc (u.2)),.bool b]) [.cells 0 (Q2 s).cells,.cells 0 (Qc (u.1)).cells]
mutual
def Ze(x0:Q0)(x1:Q1):Option (Q6×Int):=
 some (List.length x1.fArgs:Int)>>=fun v0=>
 some (x1.fArgs,v0)>>=fun v1=>
 QX x0 (Q6.mk (0:Int) (0:Int) (0:Int) (0:Int) (0:Int)) [] x1.fArgs v0 (0:Int)>>=fun v2=>(match v2 with
 | (.inl v3)=>
 some (v3.fst,v3.snd,x1.fOp)>>=fun v4=>
 (if x1.fOp==(1:Int) then
 some true
 else
 if x1.fOp==(12:Int) then
 some true
 else
 some false)>>=fun v5=>if v5 then
 some (x1.fType,(0:Int))
 else
 if v4.snd.snd==(2:Int) then
 some ((Q6.mk (3:Int) (0:Int) (0:Int) (0:Int) (0:Int)))>>=fun v8=>
 some (v8,(0:Int))
 else
 if v4.snd.snd==(3:Int) then
 Yp x0.fnest x1.fName>>=fun v9=>
 some (v9.fst.fType,(0:Int))
 else
 if v4.snd.snd==(8:Int) then
 ix v4.snd.fst (0:Int)>>=fun a8=>
 some (a8,(0:Int))
 else
 some (v4.fst,v4.snd.fst)>>=fun a3=>
 (if v4.snd.snd==(16:Int) then
 some true
 else
 if v4.snd.snd==(17:Int) then
 some true
 else
 if v4.snd.snd==(18:Int) then
 some true
 else
 some false)>>=fun a9=>if a9 then
 some ((Q6.mk (0:Int) (0:Int) (0:Int) (0:Int) (0:Int)))>>=fun aa=>
 some (aa,(0:Int))
 else
 ix a3.snd (wr ((↑(List.map Qc a3.snd).length:Int) - (2:Int)))>>=fun a4=>
 ix a3.snd (wr ((↑(List.map Qc a3.snd).length:Int) - (1:Int)))>>=fun a5=>
 some (List.length a3.snd:Int)>>=fun ai=>
 some (List.length a3.snd:Int)>>=fun aj=>
 if !(a4.fKind==a5.fKind&& (a4.fBits==a5.fBits&& (a4.fFrac==a5.fFrac&& (a4.fRound==a5.fRound&& (a4.fOver==a5.fOver&&true))))) then
 some ((Q6.mk (0:Int) (0:Int) (0:Int) (0:Int) (0:Int)))>>=fun ab=>
 some (ab,(10:Int))
 else
 YU x1>>=fun ac=>if ac then
 some ((Q6.mk (0:Int) (0:Int) (0:Int) (0:Int) (0:Int)))>>=fun ad=>
 some (ad,(0:Int))
 else
 some (List.length a3.snd:Int)>>=fun ae=>
 ix a3.snd (wr (ae - (1:Int)))>>=fun af=>
 some (af,(0:Int))
 | (.inr v25)=>
 some (v25.fst,v25.snd))
 partial_fixpoint
def QX(x0:Q0)(x4:Q6)(x6:List Q6)(a4:List Qb)(a5:Int)(a3:Int):Option ((Q6× (List Q6)) ⊕ (Q6×Int)):=
 if a3<a5 then
 Option.map Qb.f (ix a4 a3)>>=fun v0=>
 Ze x0 v0>>=fun v1=>
 if v1.snd !=(0:Int) then
 some (.inr (v1.fst,v1.snd))
 else
 if(x6.length+(1:Nat))*(40:Nat)≤(140737488355328:Nat)∧x6.length+(1:Nat)≤(9223372036854775807:Nat) then
 some (x6++[v1.fst])>>=fun v2=>
 QX x0 x4 v2 a4 a5 (wr (a3+(1:Int)))
 else none
 else
 some (.inl (x4,x6))
 partial_fixpoint
end
theorem M2(x0:Q0):(∀(x1:Q1) (r:(Q6×Int)),Ze x0 x1=some r→PU 124 [.ip 5 [.agg [.sl 8 (List.map Q5 x0.fnest.fBufs),.sl 20 (List.map Qh x0.fnest.fBody),.sl 1 (List.map eS x0.floops),.sl 1 (List.map eS x0.fscope),.sl 1 (List.map eI x0.fpath)]] 0 0,Q2 x1] (Qm r))∧(∀(x4:Q6) (x6:List Q6) (a5:List Qb) (a6:Int) (a8:Int) (o:(Q6× (List Q6)) ⊕ (Q6×Int)),QX x0 x4 x6 a5 a6 a8=some o→∀(x3:Q1),LO 124 3 92 [0,3,4,6,14,15,16] [.ip 5 [.agg [.sl 8 (List.map Q5 x0.fnest.fBufs),.sl 20 (List.map Qh x0.fnest.fBody),.sl 1 (List.map eS x0.floops),.sl 1 (List.map eS x0.fscope),.sl 1 (List.map eI x0.fpath)]] 0 0,.ptr 0 0 0,.ptr 1 0 0,.ow 2 0 5 (List.length x6),.sl 13 (List.map Qr a5),ii a6,ii a8] [.cells 0 (Q2 x3).cells,.cells 0 (Qc x4).cells,.own 0 5 (List.map Qc x6)] [0,3,4,5,6] (ZV (x0,x3) (a5,a6) o)):=
 Ze.mutual_partial_correctness x0 (fun x1 r=>PU 124 [.ip 5 [.agg [.sl 8 (List.map Q5 x0.fnest.fBufs),.sl 20 (List.map Qh x0.fnest.fBody),.sl 1 (List.map eS x0.floops),.sl 1 (List.map eS x0.fscope),.sl 1 (List.map eI x0.fpath)]] 0 0,Q2 x1] (Qm r)) (fun x4 x6 a5 a6 a8 o=>∀(x3:Q1),LO 124 3 92 [0,3,4,6,14,15,16] [.ip 5 [.agg [.sl 8 (List.map Q5 x0.fnest.fBufs),.sl 20 (List.map Qh x0.fnest.fBody),.sl 1 (List.map eS x0.floops),.sl 1 (List.map eS x0.fscope),.sl 1 (List.map eI x0.fpath)]] 0 0,.ptr 0 0 0,.ptr 1 0 0,.ow 2 0 5 (List.length x6),.sl 13 (List.map Qr a5),ii a6,ii a8] [.cells 0 (Q2 x3).cells,.cells 0 (Qc x4).cells,.own 0 5 (List.map Qc x6)] [0,3,4,5,6] (ZV (x0,x3) (a5,a6) o))
 (fun QX Q5c x1 r h=>
 Pu2 (hs:=[(15,.n eI 15 none),(37,.split),(37,.split),(43,.split),(44,.n Qc 44 none),(46,.split),(54,.c QD),(60,.split),(62,.e Qc),(64,.split),(64,.split),(64,.split),(68,.n Qc 68 none),(71,.n eI 71 none),(73,.e Qc),(77,.n eI 77 none),(79,.e Qc),(81,.split),(82,.n Qc 82 none),(84,.cb),(85,.n Qc 85 none),(88,.n eI 88 none),(90,.e Qc),(3000004,.l [] [0,3,4,6,14,15,16] [kk 3,kk 4,{slot:=6,own:=5}] [0,3,4,5,6] [kk 3,kk 4,{slot:=6,fz:=true}] (ZV (x0,x1))),(6000013,.l [] [] [] [0,3,4,6,36,37] [kk 3,kk 4,{slot:=6,fz:=true}] (Xy (x0,x1))),(6000023,.l [] [] [] [3,4,6,64] [kk 3,kk 4,{slot:=6,fz:=true}] (ZG x1))]) ((kN _ (mLen (sh:=Qr) x1.fArgs) fun v0=>(kL2 (x1.fArgs,v0) (hL:=(fun y hy=>Q5c (Q6.mk (0:Int) (0:Int) (0:Int) (0:Int) (0:Int)) [] x1.fArgs v0 (0:Int) y hy x1)) (hA:=fun v1 v3=>(kJb (id:=6000013) (v3.fst,v3.snd,x1.fOp) (fun v4 ag v5=>(kIf (c:=x1.fOp==(1:Int)) (kXj (alts:=Xy (x0,x1)) ag true (.here () rfl (.refl _) (.refl _)))
 (kIf (c:=x1.fOp==(12:Int)) (kXj (alts:=Xy (x0,x1)) ag true (.here () rfl (.refl _) (.refl _)))
 (kXj (alts:=Xy (x0,x1)) ag false (.next (.here () rfl (.refl _) (.refl _)))))))
 (fun v4=>(kEr (enc:=Qm) (x1.fType,(0:Int))))
 (fun v4=>(kIf (c:=v4.snd.snd==(2:Int)) (kW (sh:=Qc) (Q6.mk (3:Int) (0:Int) (0:Int) (0:Int) (0:Int)) lr fun v8=>(kEr (enc:=Qm) (v8,(0:Int))))
 (kIf (c:=v4.snd.snd==(3:Int)) (kC (sh:=QD) (U2 x0.fnest x1.fName) fun v9=>(kEr (enc:=Qm) (v9.fst.fType,(0:Int))))
 (kIf (c:=v4.snd.snd==(8:Int)) (kIx (enc:=Qc) (l:=v4.snd.fst) (k:=(0:Int)) fun am=>(kEr (enc:=Qm) (am,(0:Int))))
 (kJb (id:=6000023) (v4.fst,v4.snd.fst) (fun a7 aa ax=>(kIf (c:=v4.snd.snd==(16:Int)) (kXj (alts:=ZG x1) aa true (.here () rfl (.refl _) (.refl _)))
 (kIf (c:=v4.snd.snd==(17:Int)) (kXj (alts:=ZG x1) aa true (.here () rfl (.refl _) (.refl _)))
 (kIf (c:=v4.snd.snd==(18:Int)) (kXj (alts:=ZG x1) aa true (.here () rfl (.refl _) (.refl _)))
 (kXj (alts:=ZG x1) aa false (.next (.here () rfl (.refl _) (.refl _))))))))
 (fun a7=>(kW (sh:=Qc) (Q6.mk (0:Int) (0:Int) (0:Int) (0:Int) (0:Int)) lr fun ao=>(kEr (enc:=Qm) (ao,(0:Int)))))
 (fun a7=>(kIx (enc:=Qc) (l:=a7.snd) (k:=wr ((↑(List.map Qc a7.snd).length:Int) - (2:Int))) fun ab=>(kIx (enc:=Qc) (l:=a7.snd) (k:=wr ((↑(List.map Qc a7.snd).length:Int) - (1:Int))) fun ac=>(kN _ (mLen (sh:=Qc) a7.snd) fun ay=>(kN _ (mLen (sh:=Qc) a7.snd) fun az=>(kIf (c:= !(ab.fKind==ac.fKind&& (ab.fBits==ac.fBits&& (ab.fFrac==ac.fFrac&& (ab.fRound==ac.fRound&& (ab.fOver==ac.fOver&&true)))))) (kW (sh:=Qc) (Q6.mk (0:Int) (0:Int) (0:Int) (0:Int) (0:Int)) lr fun ap=>(kEr (enc:=Qm) (ap,(10:Int))))
 (kCb (G0 x1) (kW (sh:=Qc) (Q6.mk (0:Int) (0:Int) (0:Int) (0:Int) (0:Int)) lr fun aq=>(kEr (enc:=Qm) (aq,(0:Int))))
 (kN _ (mLen (sh:=Qc) a7.snd) fun ar=>(kIx (enc:=Qc) (l:=a7.snd) (k:=wr (ar - (1:Int))) fun au=>(kEr (enc:=Qm) (au,(0:Int)))))))))))))))))))
 (hB:=fun v1 ai=>(kEr (enc:=Qm) (ai.fst,ai.snd))))) h))
 (fun Ze QX Q5b Q5c x4 x6 a5 a6 a8 o h x3=>
 Lp2 (hs:=[(17,.split),(18,.e Q2),(23,.c Qm),(27,.split),(33,.z [{slot:=30,own:=5}] (some (.n Qc 33 (some .a))))]) (kb:=[kk 3,kk 4,{slot:=6,own:=5}]) (kbx:=[kk 3,kk 4,{slot:=6,fz:=true}]) ((kIfD (p:=a8<a6) (kIxR (l:=a5) (k:=a8) Yt fun v0=>(kC (sh:=Qm) (Q5b v0) fun v1=>(kIf (c:=v1.snd !=(0:Int)) (kT (nM (sh:=Qc) x6) (kX (alts:=ZV (x0,x3) (a5,a6)) (.inr (v1.fst,v1.snd)) (.next (.here _ rfl (.cons (LeV.refl (AV.ip (5:Nat) [AV.agg [AV.sl (8:Nat) (List.map Q5 x0.fnest.fBufs),AV.sl (20:Nat) (List.map Qh x0.fnest.fBody),AV.sl (1:Nat) (List.map eS x0.floops),AV.sl (1:Nat) (List.map eS x0.fscope),AV.sl (1:Nat) (List.map eI x0.fpath)]] (0:Nat) (0:Nat))) (.cons (LeV.refl (AV.ptr (0:Nat) (0:Nat) (0:Nat))) (.cons (LeV.refl (AV.ptr (1:Nat) (0:Nat) (0:Nat))) (.cons (LeV.refl (ii v1.snd)) (.cons (LeV.undef (AV.sl (5:Nat) (List.map Qc x6))) .nil))))) (.refl _)))))
 (kA (q:=(x6.length+(1:Nat))*(40:Nat)≤(140737488355328:Nat)∧x6.length+(1:Nat)≤(9223372036854775807:Nat)) (sh:=Qc) (l:=x6) (kO (sh:=Qc) (x6++[v1.fst]) (mA (sh:=Qc) x6 v1.fst) (nA x6 v1.fst) fun v2=>(kM0 (alts:=ZV (x0,x3) (a5,a6)) (fun y hy=>Q5c x4 v2 a5 a6 (wr (a8+(1:Int))) y hy x3)))))))
 (kT (nM (sh:=Qc) x6) (kX (alts:=ZV (x0,x3) (a5,a6)) (.inl (x4,x6)) (.here _ rfl (.refl _) (.refl _))))) h))
theorem Mb(x0:Q0)(x1:Q1)(r:(Q6×Int))(h:Ze x0 x1=some r):PU 124 [.ip 5 [.agg [.sl 8 (List.map Q5 x0.fnest.fBufs),.sl 20 (List.map Qh x0.fnest.fBody),.sl 1 (List.map eS x0.floops),.sl 1 (List.map eS x0.fscope),.sl 1 (List.map eI x0.fpath)]] 0 0,Q2 x1] (Qm r):=(M2 x0).1 x1 r h
def US(s:Int)(u:((List Qb)×Int))(o:Int):List Alt:=[⟨fun(x:Int)=>x=o,.exit 0,fun x=>[ii x],fun x=>[]⟩]
mutual
def Jj(x0:Q1)(x1:Int):Option Int:=
 if x1≤(1:Int) then
 some x1
 else
 some (List.length x0.fArgs:Int)>>=fun v0=>
 some (x0.fArgs,v0)>>=fun v1=>
 Yz x1 (1:Int) x0.fArgs v0 (0:Int)>>=fun v3=>
 some v3
 partial_fixpoint
def Yz(x1:Int)(x5:Int)(a4:List Qb)(a5:Int)(a3:Int):Option Int:=
 if a3<a5 then
 Option.map Qb.f (ix a4 a3)>>=fun v0=>
 Jj v0 (wr (x1 - (1:Int)))>>=fun v1=>
 Yz x1 (if true=true then max x5 (wr ((1:Int)+v1)) else min x5 (wr ((1:Int)+v1))) a4 a5 (wr (a3+(1:Int)))
 else
 some x5
 partial_fixpoint
end
theorem Az:(∀(x0:Q1) (x1:Int) (r:Int),Jj x0 x1=some r→PU 175 [Q2 x0,eI x1] (eI r))∧(∀(x1:Int) (x5:Int) (a3:List Qb) (a4:Int) (a6:Int) (o:Int),Yz x1 x5 a3 a4 a6=some o→LO 175 5 27 [1,5,12,13,14] [ii x1,ii x5,.sl 13 (List.map Qr a3),ii a4,ii a6] [] [5] (US x1 (a3,a4) o)):=
 Jj.mutual_partial_correctness (fun x0 x1 r=>PU 175 [Q2 x0,eI x1] (eI r)) (fun x1 x5 a3 a4 a6 o=>LO 175 5 27 [1,5,12,13,14] [ii x1,ii x5,.sl 13 (List.map Qr a3),ii a4,ii a6] [] [5] (US x1 (a3,a4) o))
 (fun Yz Q4t x0 x1 r h=>
 Pu2 (hs:=[(9,.split),(13,.n eI 13 none),(3000006,.l [] [1,5,12,13,14] [] [5] [] (US x1))]) ((kIfD (p:=x1≤(1:Int)) (kEr (enc:=eI) x1)
 (kN _ (mLen (sh:=Qr) x0.fArgs) fun v0=>(kL1 (x0.fArgs,v0) (Q4t x1 (1:Int) x0.fArgs v0 (0:Int)) fun v1 v3=>(kEr (enc:=eI) v3)))) h))
 (fun Jj Yz Q4s Q4t x1 x5 a3 a4 a6 o h=>
 Lp2 (hs:=[(15,.split),(16,.e Q2),(22,.c eI)]) (kb:=[]) (kbx:=[]) ((kIfD (p:=a6<a4) (kIxR (l:=a3) (k:=a6) Yt fun v0=>(kC (sh:=eI) (Q4s v0 (wr (x1 - (1:Int)))) fun v1=>(kM0 (alts:=US x1 (a3,a4)) (Q4t x1 (if true=true then max x5 (wr ((1:Int)+v1)) else min x5 (wr ((1:Int)+v1))) a3 a4 (wr (a6+(1:Int)))))))
 (kX (alts:=US x1 (a3,a4)) x5 (.here _ rfl (.refl _) (.refl _)))) h))
theorem Fv(x0:Q1)(x1:Int)(r:Int)(h:Jj x0 x1=some r):PU 175 [Q2 x0,eI x1] (eI r):=(Az).1 x0 x1 r h
def MC(x0:Q1):Option Int:=
 Jj x0 (41:Int)>>=fun v0=>
 some v0
theorem Fu(x0:Q1)(r:Int)(h:MC x0=some r):PU 144 [Q2 x0] (eI r):=
 Pu2 (hs:=[(4,.c eI)]) ((kC (sh:=eI) (Fv x0 (41:Int)) fun v0=>(kEr (enc:=eI) v0)) h)
def D4(x0:gLin):Option Bool:=
 if x0.fK==(0:Int) then
 some (List.length x0.fL:Int)>>=fun v0=>
 some (v0==(0:Int))
 else
 some false
theorem IK(x0:gLin)(r:Bool)(h:D4 x0=some r):PU 213 [Qg x0] (eB r):=
 Pu2 (hs:=[(5,.split),(9,.n eI 9 none)]) ((kIf (c:=x0.fK==(0:Int)) (kN _ (mLen (sh:=Qq) x0.fL) fun v0=>(kEr (enc:=eB) (v0==(0:Int))))
 (kEr (enc:=eB) false)) h)
def Gk(x0:Qi):Option Bool:=
 if x0.fFrom==[] then
 some (List.length x0.fAt:Int)>>=fun v0=>
 some (v0==(0:Int))
 else
 D4 x0.fLin>>=fun v1=>
 some v1
theorem EF(x0:Qi)(r:Bool)(h:Gk x0=some r):PU 216 [Q7 x0] (eB r):=
 Pu2 (hs:=[(5,.split),(8,.n eI 8 none),(12,.c eB)]) ((kIf (c:=x0.fFrom==[]) (kN _ (mLen (sh:=Qg) x0.fAt) fun v0=>(kEr (enc:=eB) (v0==(0:Int))))
 (kC (sh:=eB) (IK x0.fLin) fun v1=>(kEr (enc:=eB) v1))) h)
def Wt(x0:Qi):Option Bool:=
 Gk x0>>=fun v0=>
 some (!v0)
theorem T9(x0:Qi)(r:Bool)(h:Wt x0=some r):PU 215 [Q7 x0] (eB r):=
 Pu2 (hs:=[(4,.c eB)]) ((kC (sh:=eB) (EF x0) fun v0=>(kEr (enc:=eB) (!v0))) h)
def Zb(s:List Qi)(u:Int)(o:Unit ⊕ Int):List Alt:=[⟨fun(x:Unit)=>(Sum.inl x:Unit ⊕ Int)=o,.exit 0,fun x=>[.undef],fun x=>[]⟩,⟨fun(x:Int)=>(Sum.inr x:Unit ⊕ Int)=o,.ret,fun x=>[ii x],fun x=>[]⟩]
def QT(x0:List Qi)(x7:Int)(x8:Int):Option (Unit ⊕ Int):=
 if x8<x7 then
 ix x0 x8>>=fun v0=>
 Wt v0>>=fun v1=>if v1 then
 some (.inr x8)
 else
 QT x0 x7 (wr (x8+(1:Int)))
 else
 some (.inl ())
 partial_fixpoint
theorem DE(x0:List Qi)(x7:Int)(x8:Int)(o:Unit ⊕ Int)(h:QT x0 x7 x8=some o):LO 261 2 19 [0,1,7,8] [.sl 4 (List.map Q7 x0),.fn 215 [],ii x7,ii x8] [] [4] (Zb x0 x7 o):=
 QT.partial_correctness x0 x7 (fun x8 o=>LO 261 2 19 [0,1,7,8] [.sl 4 (List.map Q7 x0),.fn 215 [],ii x7,ii x8] [] [4] (Zb x0 x7 o))
 (fun QT Q6x x8 o h=>
 Lp2 (hs:=[(9,.split),(14,.e Q7),(16,.cb)]) (kb:=[]) (kbx:=[]) ((kIfD (p:=x8<x7) (kIx (enc:=Q7) (l:=x0) (k:=x8) fun v0=>(kCb (T9 v0) (kX (alts:=Zb x0 x7) (.inr x8) (.next (.here _ rfl (.refl _) (.refl _))))
 (kM0 (alts:=Zb x0 x7) (Q6x (wr (x8+(1:Int)))))))
 (kX (alts:=Zb x0 x7) (.inl ()) (.here _ rfl (.refl _) (.refl _)))) h)) x8 o h
def KD(x0:List Qi):Option Int:=
 some (List.length x0:Int)>>=fun v0=>
 some v0>>=fun v1=>
 QT x0 v0 (0:Int)>>=fun v2=>(match v2 with
 | (.inl v3)=>
 some (-1:Int)
 | (.inr v4)=>
 some v4)
theorem CE(x0:List Qi)(r:Int)(h:KD x0=some r):PU 261 [VX x0,.fn 215 []] (eI r):=
 Pu2 (hs:=[(7,.n eI 7 none),(3000003,.l [] [0,1,7,8] [] [4] [] (Zb x0))]) ((kN _ (mLen (sh:=Q7) x0) fun v0=>(kL2 v0 (hL:=(DE x0 v0 (0:Int))) (hA:=fun v1 v3=>(kEr (enc:=eI) (-1:Int)))
 (hB:=fun v1 v4=>(kEr (enc:=eI) v4)))) h)
def Xg(x0:List Qi):Option Bool:=
 KD x0>>=fun v0=>
 some (decide ((0:Int)≤v0))
theorem DA(x0:List Qi)(r:Bool)(h:Xg x0=some r):PU 214 [VX x0,.fn 215 []] (eB r):=
 Pu2 (hs:=[(7,.c eI)]) ((kC (sh:=eI) (CE x0) fun v0=>(kEr (enc:=eB) (decide ((0:Int)≤v0)))) h)
def Ge(s:Q1)(u:Unit)(o:(Bool×Bool)):List Alt:=[⟨fun(x:(Bool×Bool))=>x=o,.normal,fun x=>[.ptr 0 0 0,.bool (x.1),.bool (x.2)],fun x=>[.cells 0 (Q2 s).cells]⟩]
def J4(s:Q1)(u:(Bool×Bool×Bool×Bool))(o:Bool):List Alt:=jb o (fun b=>[.ptr 0 0 0,.bool (u.1),.bool (u.2.1),.bool (u.2.2.1),.bool (u.2.2.2),.bool b]) [.cells 0 (Q2 s).cells]
def J5(s:Q1)(u:(Bool×Bool×Bool))(o:Bool):List Alt:=jb o (fun b=>[.ptr 0 0 0,.bool (u.1),.bool (u.2.1),.bool (u.2.2),.bool b]) [.cells 0 (Q2 s).cells]
def J6(s:Q1)(u:(Bool×Bool))(o:Bool):List Alt:=jb o (fun b=>[.ptr 0 0 0,.bool (u.1),.bool (u.2),.bool b]) [.cells 0 (Q2 s).cells]
def J7(s:Q1)(u:Bool)(o:Bool):List Alt:=jb o (fun b=>[.ptr 0 0 0,.bool u,.bool b]) [.cells 0 (Q2 s).cells]
def Kv(s:Q1)(u:Unit)(o:Bool):List Alt:=jb o (fun b=>[.ptr 0 0 0,.bool b]) [.cells 0 (Q2 s).cells]
def CS(x0:Q1):Option Bool:=
 some ()>>=fun v0=>
 (if x0.fOp==(1:Int) then
 some ((x0.fOp==(1:Int)),true)
 else
 some ((x0.fOp==(1:Int)),(x0.fOp==(12:Int))))>>=fun v2=>
 some (v2.fst,v2.snd,(x0.fOp==(2:Int)),(x0.fOp==(3:Int)))>>=fun v3=>
 (if x0.fOp< (1:Int) then
 some true
 else
 if(18:Int)<x0.fOp then
 some true
 else
 some false)>>=fun v4=>if v4 then
 some false
 else
 some (v3.snd.fst,v3.snd.snd.fst,v3.snd.snd.snd)>>=fun v7=>
 (if v3.fst then
 some false
 else
 some ((gVal.mk (0:Int) (0:Int)))>>=fun v9=>
 if !(x0.fVal.fN==v9.fN&& (x0.fVal.fD==v9.fD&&true)) then
 some true
 else
 some false)>>=fun v8=>if v8 then
 some false
 else
 some (v7.snd.fst,v7.snd.snd)>>=fun a5=>
 (if v7.fst then
 some false
 else
 some ((Q6.mk (0:Int) (0:Int) (0:Int) (0:Int) (0:Int)))>>=fun a4=>
 if !(x0.fType.fKind==a4.fKind&& (x0.fType.fBits==a4.fBits&& (x0.fType.fFrac==a4.fFrac&& (x0.fType.fRound==a4.fRound&& (x0.fType.fOver==a4.fOver&&true))))) then
 some true
 else
 some false)>>=fun a7=>if a7 then
 some false
 else
 some a5.snd>>=fun a8=>
 (if a5.fst then
 some false
 else
 D4 x0.fLin>>=fun aa=>if aa then
 some false
 else
 some true)>>=fun a9=>if a9 then
 some false
 else
 some ()>>=fun ah=>
 (if a8 then
 some false
 else
 if !x0.fName==[] then
 some true
 else
 some (List.length x0.fIdx:Int)>>=fun ac=>
 if(0:Int)<ac then
 some true
 else
 some false)>>=fun ab=>if ab then
 some false
 else
 Xg x0.fIdx>>=fun ad=>
 some (!ad)
theorem AK(x0:Q1)(r:Bool)(h:CS x0=some r):PU 176 [Q2 x0] (eB r):=
 Pu2 (hs:=[(12,.split),(27,.split),(31,.split),(34,.split),(39,.n Qk 39 none),(40,.split),(43,.split),(48,.n Qc 48 none),(49,.split),(52,.split),(57,.cb),(61,.split),(66,.split),(70,.n eI 70 none),(71,.split),(76,.c eB),(5000001,.l [] [] [] [1,3,4] [kk 1] (Ge x0)),(5000003,.l [] [] [] [1,3,4,5,6,24] [kk 1] (J4 x0)),(5000005,.l [] [] [] [1,4,5,6,33] [kk 1] (J5 x0)),(5000007,.l [] [] [] [1,5,6,42] [kk 1] (J6 x0)),(5000009,.l [] [] [] [1,6,51] [kk 1] (J7 x0)),(5000011,.l [] [] [] [1,60] [kk 1] (Kv x0))]) ((kJ1 (id:=5000001) () (fun v0 ad v1=>(kIf (c:=x0.fOp==(1:Int)) (kXj (alts:=Ge x0) ad ((x0.fOp==(1:Int)),true) (.here _ rfl (.refl _) (.refl _)))
 (kXj (alts:=Ge x0) ad ((x0.fOp==(1:Int)),(x0.fOp==(12:Int))) (.here _ rfl (.refl _) (.refl _)))))
 (fun v0 v2=>(kJb (id:=5000003) (v2.fst,v2.snd,(x0.fOp==(2:Int)),(x0.fOp==(3:Int))) (fun v3 a9 v4=>(kIfD (p:=x0.fOp< (1:Int)) (kXj (alts:=J4 x0) a9 true (.here () rfl (.refl _) (.refl _)))
 (kIfD (p:=(18:Int)<x0.fOp) (kXj (alts:=J4 x0) a9 true (.here () rfl (.refl _) (.refl _)))
 (kXj (alts:=J4 x0) a9 false (.next (.here () rfl (.refl _) (.refl _)))))))
 (fun v3=>(kEr (enc:=eB) false))
 (fun v3=>(kJb (id:=5000005) (v3.snd.fst,v3.snd.snd.fst,v3.snd.snd.snd) (fun v7 aa v8=>(kIf (c:=v3.fst) (kXj (alts:=J5 x0) aa false (.next (.here () rfl (.refl _) (.refl _))))
 (kW (sh:=Qk) (gVal.mk (0:Int) (0:Int)) lr fun v9=>(kIf (c:= !(x0.fVal.fN==v9.fN&& (x0.fVal.fD==v9.fD&&true))) (kXj (alts:=J5 x0) aa true (.here () rfl (.refl _) (.refl _)))
 (kXj (alts:=J5 x0) aa false (.next (.here () rfl (.refl _) (.refl _))))))))
 (fun v7=>(kEr (enc:=eB) false))
 (fun v7=>(kJb (id:=5000007) (v7.snd.fst,v7.snd.snd) (fun a8 a5 am=>(kIf (c:=v7.fst) (kXj (alts:=J6 x0) a5 false (.next (.here () rfl (.refl _) (.refl _))))
 (kW (sh:=Qc) (Q6.mk (0:Int) (0:Int) (0:Int) (0:Int) (0:Int)) lr fun a7=>(kIf (c:= !(x0.fType.fKind==a7.fKind&& (x0.fType.fBits==a7.fBits&& (x0.fType.fFrac==a7.fFrac&& (x0.fType.fRound==a7.fRound&& (x0.fType.fOver==a7.fOver&&true)))))) (kXj (alts:=J6 x0) a5 true (.here () rfl (.refl _) (.refl _)))
 (kXj (alts:=J6 x0) a5 false (.next (.here () rfl (.refl _) (.refl _))))))))
 (fun a8=>(kEr (enc:=eB) false))
 (fun a8=>(kJb (id:=5000009) a8.snd (fun ab a6 ao=>(kIf (c:=a8.fst) (kXj (alts:=J7 x0) a6 false (.next (.here () rfl (.refl _) (.refl _))))
 (kCb (IK x0.fLin) (kXj (alts:=J7 x0) a6 false (.next (.here () rfl (.refl _) (.refl _))))
 (kXj (alts:=J7 x0) a6 true (.here () rfl (.refl _) (.refl _))))))
 (fun ab=>(kEr (enc:=eB) false))
 (fun ab=>(kJb (id:=5000011) () (fun ae a4 ap=>(kIf (c:=ab) (kXj (alts:=Kv x0) a4 false (.next (.here () rfl (.refl _) (.refl _))))
 (kIf (c:= !x0.fName==[]) (kXj (alts:=Kv x0) a4 true (.here () rfl (.refl _) (.refl _)))
 (kN _ (mLen (sh:=Q7) x0.fIdx) fun ag=>(kIfD (p:=(0:Int)<ag) (kXj (alts:=Kv x0) a4 true (.here () rfl (.refl _) (.refl _)))
 (kXj (alts:=Kv x0) a4 false (.next (.here () rfl (.refl _) (.refl _)))))))))
 (fun ae=>(kEr (enc:=eB) false))
 (fun ae=>(kC (sh:=eB) (DA x0.fIdx) fun ah=>(kEr (enc:=eB) (!ah))))))))))))))) h)
def ZQ(s:(Int×Int))(u:Unit)(o:Bool):List Alt:=jb o (fun b=>[ii (s.1),ii (s.2),.bool b]) []
def Vf(x0:Int)(x1:Int):Option Bool:=
 some ()>>=fun v0=>
 (if x0==(16:Int) then
 some true
 else
 if x0==(17:Int) then
 some true
 else
 if x0==(18:Int) then
 some true
 else
 some false)>>=fun v1=>if v1 then
 some true
 else
 if x0==(11:Int) then
 some (x1==(0:Int))
 else
 some false
theorem MF(x0:Int)(x1:Int)(r:Bool)(h:Vf x0 x1=some r):PU 220 [eI x0,eI x1] (eB r):=
 Pu2 (hs:=[(6,.split),(6,.split),(6,.split),(11,.split),(6000004,.l [] [] [] [0,1,6] [] (ZQ (x0,x1)))]) ((kJb (id:=6000004) () (fun v0 a4 v1=>(kIf (c:=x0==(16:Int)) (kXj (alts:=ZQ (x0,x1)) a4 true (.here () rfl (.refl _) (.refl _)))
 (kIf (c:=x0==(17:Int)) (kXj (alts:=ZQ (x0,x1)) a4 true (.here () rfl (.refl _) (.refl _)))
 (kIf (c:=x0==(18:Int)) (kXj (alts:=ZQ (x0,x1)) a4 true (.here () rfl (.refl _) (.refl _)))
 (kXj (alts:=ZQ (x0,x1)) a4 false (.next (.here () rfl (.refl _) (.refl _))))))))
 (fun v0=>(kEr (enc:=eB) true))
 (fun v0=>(kIf (c:=x0==(11:Int)) (kEr (enc:=eB) (x1==(0:Int)))
 (kEr (enc:=eB) false)))) h)
def Jy(s:Q1)(u:((List Qb)×Int))(o:Unit ⊕ Bool):List Alt:=[⟨fun(x:Unit)=>(Sum.inl x:Unit ⊕ Bool)=o,.exit 0,fun x=>[.undef],fun x=>[]⟩,⟨fun(x:Bool)=>(Sum.inr x:Unit ⊕ Bool)=o,.ret,fun x=>[.bool x],fun x=>[]⟩]
def YA(x1:Q1)(a4:List Qb)(a5:Int)(a3:Int):Option (Unit ⊕ Bool):=
 if a3<a5 then
 Option.map Qb.f (ix a4 a3)>>=fun v0=>
 YU v0>>=fun v1=>
 Vf x1.fOp a3>>=fun v2=>
 if !v1==v2 then
 some (.inr false)
 else
 YA x1 a4 a5 (wr (a3+(1:Int)))
 else
 some (.inl ())
 partial_fixpoint
theorem Ta(x1:Q1)(a3:List Qb)(a4:Int)(a5:Int)(o:Unit ⊕ Bool)(h:YA x1 a3 a4 a5=some o):LO 179 4 35 [1,20,21,22] [.ptr 0 0 0,.sl 13 (List.map Qr a3),ii a4,ii a5] [.cells 0 (Q2 x1).cells] [2] (Jy x1 (a3,a4) o):=
 YA.partial_correctness x1 a3 a4 (fun a5 o=>LO 179 4 35 [1,20,21,22] [.ptr 0 0 0,.sl 13 (List.map Qr a3),ii a4,ii a5] [.cells 0 (Q2 x1).cells] [2] (Jy x1 (a3,a4) o))
 (fun YA Q4u a5 o h=>
 Lp2 (hs:=[(23,.split),(25,.e Q2),(28,.c eB),(32,.c eB),(33,.split)]) (kb:=[kk 1]) (kbx:=[]) ((kIfD (p:=a5<a4) (kIxR (l:=a3) (k:=a5) Yt fun v0=>(kC (sh:=eB) (G0 v0) fun v1=>(kC (sh:=eB) (MF x1.fOp a5) fun v2=>(kIf (c:= !v1==v2) (kX (alts:=Jy x1 (a3,a4)) (.inr false) (.next (.here _ rfl (.refl _) (.refl _))))
 (kM0 (alts:=Jy x1 (a3,a4)) (Q4u (wr (a5+(1:Int)))))))))
 (kX (alts:=Jy x1 (a3,a4)) (.inl ()) (.here _ rfl (.refl _) (.refl _)))) h)) a5 o h
def YL(s:Q1)(u:Unit)(o:Bool):List Alt:=jb o (fun b=>[.ptr 0 0 0,.bool b]) [.cells 0 (Q2 s).cells]
def Wu(x0:Q1):Option Bool:=
 some ()>>=fun v0=>
 (if x0.fOp==(1:Int) then
 ZP x0.fType>>=fun v2=>
 if v2 !=(0:Int) then
 some true
 else
 some false
 else
 if x0.fOp==(12:Int) then
 ZP x0.fType>>=fun v3=>
 if v3 !=(0:Int) then
 some true
 else
 some false
 else
 some false)>>=fun v1=>if v1 then
 some false
 else
 some (List.length x0.fArgs:Int)>>=fun v6=>
 some (x0.fArgs,v6)>>=fun v7=>
 YA x0 x0.fArgs v6 (0:Int)>>=fun v8=>(match v8 with
 | (.inl v9)=>
 some true
 | (.inr v10)=>
 some v10)
theorem Fy(x0:Q1)(r:Bool)(h:Wu x0=some r):PU 179 [Q2 x0] (eB r):=
 Pu2 (hs:=[(7,.split),(11,.split),(16,.c eI),(17,.split),(21,.n eI 21 none),(3000005,.l [] [1,20,21,22] [kk 1] [2] [] (Jy x0)),(5000001,.l [] [] [] [1,18] [kk 1] (YL x0))]) ((kJb (id:=5000001) () (fun v0 a4 v1=>(kIf (c:=x0.fOp==(1:Int)) (kC (sh:=eI) (Kc x0.fType) fun v2=>(kIf (c:=v2 !=(0:Int)) (kXj (alts:=YL x0) a4 true (.here () rfl (.refl _) (.refl _)))
 (kXj (alts:=YL x0) a4 false (.next (.here () rfl (.refl _) (.refl _))))))
 (kIf (c:=x0.fOp==(12:Int)) (kC (sh:=eI) (Kc x0.fType) fun v3=>(kIf (c:=v3 !=(0:Int)) (kXj (alts:=YL x0) a4 true (.here () rfl (.refl _) (.refl _)))
 (kXj (alts:=YL x0) a4 false (.next (.here () rfl (.refl _) (.refl _))))))
 (kXj (alts:=YL x0) a4 false (.next (.here () rfl (.refl _) (.refl _)))))))
 (fun v0=>(kEr (enc:=eB) false))
 (fun v0=>(kN _ (mLen (sh:=Qr) x0.fArgs) fun v6=>(kL2 (x0.fArgs,v6) (hL:=(Ta x0 x0.fArgs v6 (0:Int))) (hA:=fun v7 v9=>(kEr (enc:=eB) true))
 (hB:=fun v7 a5=>(kEr (enc:=eB) a5)))))) h)
def Ql(s:Unit)(u:Unit)(o:Bool):List Alt:=jb o (fun b=>[.bool b]) []
def DZ(x0:Str):Option Bool:=
 some ()>>=fun v0=>
 (if x0==[(115:UInt8),(105:UInt8),(122:UInt8),(101:UInt8)] then
 some true
 else
 if x0==[(119:UInt8),(104:UInt8),(101:UInt8),(114:UInt8),(101:UInt8)] then
 some true
 else
 if x0==[(105:UInt8),(110:UInt8)] then
 some true
 else
 if x0==[(100:UInt8),(101:UInt8),(102:UInt8)] then
 some true
 else
 if x0==[(111:UInt8),(117:UInt8),(116:UInt8)] then
 some true
 else
 if x0==[(115:UInt8),(117:UInt8),(109:UInt8)] then
 some true
 else
 if x0==[(112:UInt8),(114:UInt8),(111:UInt8),(100:UInt8)] then
 some true
 else
 if x0==[(109:UInt8),(105:UInt8),(110:UInt8)] then
 some true
 else
 if x0==[(109:UInt8),(97:UInt8),(120:UInt8)] then
 some true
 else
 if x0==[(115:UInt8),(99:UInt8),(97:UInt8),(110:UInt8)] then
 some true
 else
 if x0==[(111:UInt8),(118:UInt8),(101:UInt8),(114:UInt8)] then
 some true
 else
 if x0==[(105:UInt8),(102:UInt8)] then
 some true
 else
 if x0==[(99:UInt8),(97:UInt8),(115:UInt8),(116:UInt8)] then
 some true
 else
 if x0==[(102:UInt8),(114:UInt8),(97:UInt8),(99:UInt8)] then
 some true
 else
 if x0==[(105:UInt8),(110:UInt8),(116:UInt8)] then
 some true
 else
 if x0==[(102:UInt8),(105:UInt8),(120:UInt8)] then
 some true
 else
 if x0==[(99:UInt8),(101:UInt8),(105:UInt8),(108:UInt8)] then
 some true
 else
 if x0==[(102:UInt8),(108:UInt8),(111:UInt8),(111:UInt8),(114:UInt8)] then
 some true
 else
 if x0==[(122:UInt8),(101:UInt8),(114:UInt8),(111:UInt8)] then
 some true
 else
 if x0==[(101:UInt8),(118:UInt8),(101:UInt8),(110:UInt8)] then
 some true
 else
 if x0==[(115:UInt8),(97:UInt8),(116:UInt8)] then
 some true
 else
 if x0==[(119:UInt8),(114:UInt8),(97:UInt8),(112:UInt8)] then
 some true
 else
 some false)>>=fun v1=>if v1 then
 some true
 else
 some false
theorem Su(x0:Str)(r:Bool)(h:DZ x0=some r):PU 262 [eS x0] (eB r):=
 Pu2 (hs:=[(4,.split),(4,.split),(4,.split),(4,.split),(4,.split),(4,.split),(4,.split),(4,.split),(4,.split),(4,.split),(4,.split),(4,.split),(4,.split),(4,.split),(4,.split),(4,.split),(4,.split),(4,.split),(4,.split),(4,.split),(4,.split),(4,.split),(6000004,.l [] [] [] [4] [] (Ql ()))]) ((kJb (id:=6000004) () (fun v0 a3 v1=>(kIf (c:=x0==[(115:UInt8),(105:UInt8),(122:UInt8),(101:UInt8)]) (kXj (alts:=Ql ()) a3 true (.here () rfl (.refl _) (.refl _)))
 (kIf (c:=x0==[(119:UInt8),(104:UInt8),(101:UInt8),(114:UInt8),(101:UInt8)]) (kXj (alts:=Ql ()) a3 true (.here () rfl (.refl _) (.refl _)))
 (kIf (c:=x0==[(105:UInt8),(110:UInt8)]) (kXj (alts:=Ql ()) a3 true (.here () rfl (.refl _) (.refl _)))
 (kIf (c:=x0==[(100:UInt8),(101:UInt8),(102:UInt8)]) (kXj (alts:=Ql ()) a3 true (.here () rfl (.refl _) (.refl _)))
 (kIf (c:=x0==[(111:UInt8),(117:UInt8),(116:UInt8)]) (kXj (alts:=Ql ()) a3 true (.here () rfl (.refl _) (.refl _)))
 (kIf (c:=x0==[(115:UInt8),(117:UInt8),(109:UInt8)]) (kXj (alts:=Ql ()) a3 true (.here () rfl (.refl _) (.refl _)))
 (kIf (c:=x0==[(112:UInt8),(114:UInt8),(111:UInt8),(100:UInt8)]) (kXj (alts:=Ql ()) a3 true (.here () rfl (.refl _) (.refl _)))
 (kIf (c:=x0==[(109:UInt8),(105:UInt8),(110:UInt8)]) (kXj (alts:=Ql ()) a3 true (.here () rfl (.refl _) (.refl _)))
 (kIf (c:=x0==[(109:UInt8),(97:UInt8),(120:UInt8)]) (kXj (alts:=Ql ()) a3 true (.here () rfl (.refl _) (.refl _)))
 (kIf (c:=x0==[(115:UInt8),(99:UInt8),(97:UInt8),(110:UInt8)]) (kXj (alts:=Ql ()) a3 true (.here () rfl (.refl _) (.refl _)))
 (kIf (c:=x0==[(111:UInt8),(118:UInt8),(101:UInt8),(114:UInt8)]) (kXj (alts:=Ql ()) a3 true (.here () rfl (.refl _) (.refl _)))
 (kIf (c:=x0==[(105:UInt8),(102:UInt8)]) (kXj (alts:=Ql ()) a3 true (.here () rfl (.refl _) (.refl _)))
 (kIf (c:=x0==[(99:UInt8),(97:UInt8),(115:UInt8),(116:UInt8)]) (kXj (alts:=Ql ()) a3 true (.here () rfl (.refl _) (.refl _)))
 (kIf (c:=x0==[(102:UInt8),(114:UInt8),(97:UInt8),(99:UInt8)]) (kXj (alts:=Ql ()) a3 true (.here () rfl (.refl _) (.refl _)))
 (kIf (c:=x0==[(105:UInt8),(110:UInt8),(116:UInt8)]) (kXj (alts:=Ql ()) a3 true (.here () rfl (.refl _) (.refl _)))
 (kIf (c:=x0==[(102:UInt8),(105:UInt8),(120:UInt8)]) (kXj (alts:=Ql ()) a3 true (.here () rfl (.refl _) (.refl _)))
 (kIf (c:=x0==[(99:UInt8),(101:UInt8),(105:UInt8),(108:UInt8)]) (kXj (alts:=Ql ()) a3 true (.here () rfl (.refl _) (.refl _)))
 (kIf (c:=x0==[(102:UInt8),(108:UInt8),(111:UInt8),(111:UInt8),(114:UInt8)]) (kXj (alts:=Ql ()) a3 true (.here () rfl (.refl _) (.refl _)))
 (kIf (c:=x0==[(122:UInt8),(101:UInt8),(114:UInt8),(111:UInt8)]) (kXj (alts:=Ql ()) a3 true (.here () rfl (.refl _) (.refl _)))
 (kIf (c:=x0==[(101:UInt8),(118:UInt8),(101:UInt8),(110:UInt8)]) (kXj (alts:=Ql ()) a3 true (.here () rfl (.refl _) (.refl _)))
 (kIf (c:=x0==[(115:UInt8),(97:UInt8),(116:UInt8)]) (kXj (alts:=Ql ()) a3 true (.here () rfl (.refl _) (.refl _)))
 (kIf (c:=x0==[(119:UInt8),(114:UInt8),(97:UInt8),(112:UInt8)]) (kXj (alts:=Ql ()) a3 true (.here () rfl (.refl _) (.refl _)))
 (kXj (alts:=Ql ()) a3 false (.next (.here () rfl (.refl _) (.refl _)))))))))))))))))))))))))))
 (fun v0=>(kEr (enc:=eB) true))
 (fun v0=>(kEr (enc:=eB) false))) h)
def Kr(s:Str)(u:Int)(o:Unit ⊕ Bool):List Alt:=[⟨fun(x:Unit)=>(Sum.inl x:Unit ⊕ Bool)=o,.exit 0,fun x=>[.undef],fun x=>[]⟩,⟨fun(x:Bool)=>(Sum.inr x:Unit ⊕ Bool)=o,.ret,fun x=>[.bool x],fun x=>[]⟩]
def QB(s:(Str×Int))(u:Int)(o:Bool):List Alt:=jb o (fun b=>[.str (s.1),ii (s.2),ii u,.bool b]) []
def Zv(x0:Str)(a5:Int)(a4:Int):Option (Unit ⊕ Bool):=
 if a4<a5 then
 ix x0 a4>>=fun v0=>
 some a4>>=fun v1=>
 (if(↑v0.toNat:Int)< (97:Int) then
 if(↑v0.toNat:Int)< (48:Int) then
 if(↑v0.toNat:Int) !=(95:Int) then
 some true
 else
 some false
 else
 if(57:Int)< (↑v0.toNat:Int) then
 if(↑v0.toNat:Int) !=(95:Int) then
 some true
 else
 some false
 else
 some false
 else
 if(122:Int)< (↑v0.toNat:Int) then
 if(↑v0.toNat:Int)< (48:Int) then
 if(↑v0.toNat:Int) !=(95:Int) then
 some true
 else
 some false
 else
 if(57:Int)< (↑v0.toNat:Int) then
 if(↑v0.toNat:Int) !=(95:Int) then
 some true
 else
 some false
 else
 some false
 else
 some false)>>=fun v2=>if v2 then
 some (.inr false)
 else
 Zv x0 a5 (wr (v1+(1:Int)))
 else
 some (.inl ())
 partial_fixpoint
theorem H7(x0:Str)(a3:Int)(a6:Int)(o:Unit ⊕ Bool)(h:Zv x0 a3 a6=some o):LO 222 4 54 [0,28,29] [.str x0,ii a3,ii a6] [] [2] (Kr x0 a3 o):=
 Zv.partial_correctness x0 a3 (fun a6 o=>LO 222 4 54 [0,28,29] [.str x0,ii a3,ii a6] [] [2] (Kr x0 a3 o))
 (fun Zv Q54 a6 o h=>
 Lp2 (hs:=[(30,.split),(34,.u),(36,.split),(39,.split),(43,.split),(46,.split),(51,.split),(5000007,.l [] [] [] [0,28,29,52] [] (QB (x0,a3)))]) (kb:=[]) (kbx:=[]) ((kIfD (p:=a6<a3) (kU (s:=x0) (k:=a6) fun v0=>(kJb (id:=5000007) a6 (fun v1 a4 v2=>(kIfD (p:=(↑v0.toNat:Int)< (97:Int)) (kIfD (p:=(↑v0.toNat:Int)< (48:Int)) (kIf (c:=(↑v0.toNat:Int) !=(95:Int)) (kXj (alts:=QB (x0,a3)) a4 true (.here () rfl (.refl _) (.refl _)))
 (kXj (alts:=QB (x0,a3)) a4 false (.next (.here () rfl (.refl _) (.refl _)))))
 (kIfD (p:=(57:Int)< (↑v0.toNat:Int)) (kIf (c:=(↑v0.toNat:Int) !=(95:Int)) (kXj (alts:=QB (x0,a3)) a4 true (.here () rfl (.refl _) (.refl _)))
 (kXj (alts:=QB (x0,a3)) a4 false (.next (.here () rfl (.refl _) (.refl _)))))
 (kXj (alts:=QB (x0,a3)) a4 false (.next (.here () rfl (.refl _) (.refl _))))))
 (kIfD (p:=(122:Int)< (↑v0.toNat:Int)) (kIfD (p:=(↑v0.toNat:Int)< (48:Int)) (kIf (c:=(↑v0.toNat:Int) !=(95:Int)) (kXj (alts:=QB (x0,a3)) a4 true (.here () rfl (.refl _) (.refl _)))
 (kXj (alts:=QB (x0,a3)) a4 false (.next (.here () rfl (.refl _) (.refl _)))))
 (kIfD (p:=(57:Int)< (↑v0.toNat:Int)) (kIf (c:=(↑v0.toNat:Int) !=(95:Int)) (kXj (alts:=QB (x0,a3)) a4 true (.here () rfl (.refl _) (.refl _)))
 (kXj (alts:=QB (x0,a3)) a4 false (.next (.here () rfl (.refl _) (.refl _)))))
 (kXj (alts:=QB (x0,a3)) a4 false (.next (.here () rfl (.refl _) (.refl _))))))
 (kXj (alts:=QB (x0,a3)) a4 false (.next (.here () rfl (.refl _) (.refl _)))))))
 (fun v1=>(kX (alts:=Kr x0 a3) (.inr false) (.next (.here _ rfl (.refl _) (.refl _)))))
 (fun v1=>(kM0 (alts:=Kr x0 a3) (Q54 (wr (v1+(1:Int))))))))
 (kX (alts:=Kr x0 a3) (.inl ()) (.here _ rfl (.refl _) (.refl _)))) h)) a6 o h
def ZJ(s:Str)(u:Unit)(o:Bool):List Alt:=jb o (fun b=>[.str s,.bool b]) []
def GN(x0:Str):Option Bool:=
 some ()>>=fun v0=>
 (if(↑(List.length x0):Int)< (1:Int) then
 some true
 else
 if(16:Int)< (↑(List.length x0):Int) then
 some true
 else
 DZ x0>>=fun v2=>if v2 then
 some true
 else
 ix x0 (0:Int)>>=fun v3=>
 if(↑v3.toNat:Int)< (97:Int) then
 some true
 else
 ix x0 (0:Int)>>=fun v4=>
 if(122:Int)< (↑v4.toNat:Int) then
 some true
 else
 some false)>>=fun v1=>if v1 then
 some false
 else
 some (↑(List.length x0):Int)>>=fun v7=>
 Zv x0 (↑(List.length x0):Int) (0:Int)>>=fun v8=>(match v8 with
 | (.inl v9)=>
 some true
 | (.inr v10)=>
 some v10)
theorem Rk(x0:Str)(r:Bool)(h:GN x0=some r):PU 222 [eS x0] (eB r):=
 Pu2 (hs:=[(7,.split),(11,.split),(15,.cb),(19,.u),(20,.split),(24,.u),(25,.split),(3000005,.l [] [0,28,29] [] [2] [] (Kr x0)),(5000001,.l [] [] [] [0,26] [] (ZJ x0))]) ((kJb (id:=5000001) () (fun v0 a4 v1=>(kIfD (p:=(↑(List.length x0):Int)< (1:Int)) (kXj (alts:=ZJ x0) a4 true (.here () rfl (.refl _) (.refl _)))
 (kIfD (p:=(16:Int)< (↑(List.length x0):Int)) (kXj (alts:=ZJ x0) a4 true (.here () rfl (.refl _) (.refl _)))
 (kCb (Su x0) (kXj (alts:=ZJ x0) a4 true (.here () rfl (.refl _) (.refl _)))
 (kU (s:=x0) (k:=(0:Int)) fun v3=>(kIfD (p:=(↑v3.toNat:Int)< (97:Int)) (kXj (alts:=ZJ x0) a4 true (.here () rfl (.refl _) (.refl _)))
 (kU (s:=x0) (k:=(0:Int)) fun v4=>(kIfD (p:=(122:Int)< (↑v4.toNat:Int)) (kXj (alts:=ZJ x0) a4 true (.here () rfl (.refl _) (.refl _)))
 (kXj (alts:=ZJ x0) a4 false (.next (.here () rfl (.refl _) (.refl _))))))))))))
 (fun v0=>(kEr (enc:=eB) false))
 (fun v0=>(kL2 (↑(List.length x0):Int) (hL:=(H7 x0 (↑(List.length x0):Int) (0:Int))) (hA:=fun v7 v9=>(kEr (enc:=eB) true))
 (hB:=fun v7 a5=>(kEr (enc:=eB) a5))))) h)
def Vk(s:gLin)(u:((List Zu)×Int))(o:Unit ⊕ Int):List Alt:=[⟨fun(x:Unit)=>(Sum.inl x:Unit ⊕ Int)=o,.exit 0,fun x=>[.undef],fun x=>[]⟩,⟨fun(x:Int)=>(Sum.inr x:Unit ⊕ Int)=o,.ret,fun x=>[ii x],fun x=>[]⟩]
def XV(s:(gLin× (List Zu)×Int))(u:Int)(o:Bool):List Alt:=jb o (fun b=>[.ptr 0 0 0,.sl 2 (List.map Qq (s.2.1)),ii (s.2.2),ii u,.bool b]) [.cells 0 (Qg (s.1)).cells]
def XA(x1:gLin)(x6:List Zu)(x7:Int)(x8:Int):Option (Unit ⊕ Int):=
 if x8<x7 then
 ix x6 x8>>=fun v0=>
 some x8>>=fun v1=>
 (GN v0.fName>>=fun v3=>if v3 then
 if v0.fBy==(0:Int) then
 some true
 else
 if(0:Int)<x8 then
 ix x1.fL (wr (x8 - (1:Int)))>>=fun v4=>
 if !Op.bytesLess v4.fName v0.fName then
 some true
 else
 some false
 else
 some false
 else
 some true)>>=fun v2=>if v2 then
 some (.inr (1:Int))
 else
 XA x1 x6 x7 (wr (v1+(1:Int)))
 else
 some (.inl ())
 partial_fixpoint
theorem EI(x1:gLin)(x6:List Zu)(x7:Int)(x8:Int)(o:Unit ⊕ Int)(h:XA x1 x6 x7 x8=some o):LO 181 2 39 [1,6,7,8] [.ptr 0 0 0,.sl 2 (List.map Qq x6),ii x7,ii x8] [.cells 0 (Qg x1).cells] [2] (Vk x1 (x6,x7) o):=
 XA.partial_correctness x1 x6 x7 (fun x8 o=>LO 181 2 39 [1,6,7,8] [.ptr 0 0 0,.sl 2 (List.map Qq x6),ii x7,ii x8] [.cells 0 (Qg x1).cells] [2] (Vk x1 (x6,x7) o))
 (fun XA Q53 x8 o h=>
 Lp2 (hs:=[(9,.split),(11,.e Qq),(15,.cb),(20,.split),(24,.split),(30,.e Qq),(35,.split),(5000004,.l [] [] [] [1,6,7,8,37] [kk 1] (XV (x1,x6,x7)))]) (kb:=[kk 1]) (kbx:=[]) ((kIfD (p:=x8<x7) (kIx (enc:=Qq) (l:=x6) (k:=x8) fun v0=>(kJb (id:=5000004) x8 (fun v1 a6 v2=>(kCb (Rk v0.fName) (kIf (c:=v0.fBy==(0:Int)) (kXj (alts:=XV (x1,x6,x7)) a6 true (.here () rfl (.refl _) (.refl _)))
 (kIfD (p:=(0:Int)<x8) (kIx (enc:=Qq) (l:=x1.fL) (k:=wr (x8 - (1:Int))) fun v4=>(kIf (c:= !Op.bytesLess v4.fName v0.fName) (kXj (alts:=XV (x1,x6,x7)) a6 true (.here () rfl (.refl _) (.refl _)))
 (kXj (alts:=XV (x1,x6,x7)) a6 false (.next (.here () rfl (.refl _) (.refl _))))))
 (kXj (alts:=XV (x1,x6,x7)) a6 false (.next (.here () rfl (.refl _) (.refl _))))))
 (kXj (alts:=XV (x1,x6,x7)) a6 true (.here () rfl (.refl _) (.refl _)))))
 (fun v1=>(kX (alts:=Vk x1 (x6,x7)) (.inr (1:Int)) (.next (.here _ rfl (.refl _) (.refl _)))))
 (fun v1=>(kM0 (alts:=Vk x1 (x6,x7)) (Q53 (wr (v1+(1:Int))))))))
 (kX (alts:=Vk x1 (x6,x7)) (.inl ()) (.here _ rfl (.refl _) (.refl _)))) h)) x8 o h
def DY(x0:gLin):Option Int:=
 some (List.length x0.fL:Int)>>=fun v0=>
 some (x0.fL,v0)>>=fun v1=>
 XA x0 x0.fL v0 (0:Int)>>=fun v2=>(match v2 with
 | (.inl v3)=>
 some (0:Int)
 | (.inr v4)=>
 some v4)
theorem Ss(x0:gLin)(r:Int)(h:DY x0=some r):PU 181 [Qg x0] (eI r):=
 Pu2 (hs:=[(7,.n eI 7 none),(3000003,.l [] [1,6,7,8] [kk 1] [2] [] (Vk x0))]) ((kN _ (mLen (sh:=Qq) x0.fL) fun v0=>(kL2 (x0.fL,v0) (hL:=(EI x0 x0.fL v0 (0:Int))) (hA:=fun v1 v3=>(kEr (enc:=eI) (0:Int)))
 (hB:=fun v1 v4=>(kEr (enc:=eI) v4)))) h)
def YS(s:Unit)(u:Int)(o:Bool):List Alt:=jb o (fun b=>[ii u,.bool b]) []
def YT(s:Unit)(u:Int)(o:Bool):List Alt:=jb o (fun b=>[ii u,.bool b]) []
def Dk(x0:Int):Option Int:=
 some x0>>=fun v0=>
 (if x0==(1:Int) then
 some true
 else
 if x0==(2:Int) then
 some true
 else
 if x0==(3:Int) then
 some true
 else
 some false)>>=fun v1=>if v1 then
 some (0:Int)
 else
 some v0>>=fun v4=>
 (if v0==(8:Int) then
 some true
 else
 if v0==(12:Int) then
 some true
 else
 if v0==(18:Int) then
 some true
 else
 some false)>>=fun v5=>if v5 then
 some (1:Int)
 else
 if v4==(11:Int) then
 some (3:Int)
 else
 some (2:Int)
theorem T8(x0:Int)(r:Int)(h:Dk x0=some r):PU 218 [eI x0] (eI r):=
 Pu2 (hs:=[(4,.split),(4,.split),(4,.split),(8,.split),(8,.split),(8,.split),(13,.split),(6000004,.l [] [] [] [3,4] [] (YS ())),(6000008,.l [] [] [] [3,8] [] (YT ()))]) ((kJb (id:=6000004) x0 (fun v0 a3 v1=>(kIf (c:=x0==(1:Int)) (kXj (alts:=YS ()) a3 true (.here () rfl (.refl _) (.refl _)))
 (kIf (c:=x0==(2:Int)) (kXj (alts:=YS ()) a3 true (.here () rfl (.refl _) (.refl _)))
 (kIf (c:=x0==(3:Int)) (kXj (alts:=YS ()) a3 true (.here () rfl (.refl _) (.refl _)))
 (kXj (alts:=YS ()) a3 false (.next (.here () rfl (.refl _) (.refl _))))))))
 (fun v0=>(kEr (enc:=eI) (0:Int)))
 (fun v0=>(kJb (id:=6000008) v0 (fun v4 a4 v5=>(kIf (c:=v0==(8:Int)) (kXj (alts:=YT ()) a4 true (.here () rfl (.refl _) (.refl _)))
 (kIf (c:=v0==(12:Int)) (kXj (alts:=YT ()) a4 true (.here () rfl (.refl _) (.refl _)))
 (kIf (c:=v0==(18:Int)) (kXj (alts:=YT ()) a4 true (.here () rfl (.refl _) (.refl _)))
 (kXj (alts:=YT ()) a4 false (.next (.here () rfl (.refl _) (.refl _))))))))
 (fun v4=>(kEr (enc:=eI) (1:Int)))
 (fun v4=>(kIf (c:=v4==(11:Int)) (kEr (enc:=eI) (3:Int))
 (kEr (enc:=eI) (2:Int))))))) h)
end Go.Proofs.YtolcgikajjkjgaaGreatDoor
end
noncomputable section
namespace Go.Proofs.YtolcgikajjkjgaaGreatDoor
open Go HY
set_option maxRecDepth 1000000
set_option linter.unusedVariables false
def Nc(x0:Qi):Option Bool:=
 if !x0.fFrom==[] then
 VU x0.fFrom>>=fun v0=>
 some (!v0)
 else
 some false
theorem Sn(x0:Qi)(r:Bool)(h:Nc x0=some r):PU 217 [Q7 x0] (eB r):=
 Pu2 (hs:=[(5,.split),(9,.c eB)]) ((kIf (c:= !x0.fFrom==[]) (kC (sh:=eB) (C5 x0.fFrom) fun v0=>(kEr (enc:=eB) (!v0)))
 (kEr (enc:=eB) false)) h)
def Zc(s:List Qi)(u:Int)(o:Unit ⊕ Int):List Alt:=[⟨fun(x:Unit)=>(Sum.inl x:Unit ⊕ Int)=o,.exit 0,fun x=>[.undef],fun x=>[]⟩,⟨fun(x:Int)=>(Sum.inr x:Unit ⊕ Int)=o,.ret,fun x=>[ii x],fun x=>[]⟩]
def QU(x0:List Qi)(x7:Int)(x8:Int):Option (Unit ⊕ Int):=
 if x8<x7 then
 ix x0 x8>>=fun v0=>
 Nc v0>>=fun v1=>if v1 then
 some (.inr x8)
 else
 QU x0 x7 (wr (x8+(1:Int)))
 else
 some (.inl ())
 partial_fixpoint
theorem DF(x0:List Qi)(x7:Int)(x8:Int)(o:Unit ⊕ Int)(h:QU x0 x7 x8=some o):LO 261 2 19 [0,1,7,8] [.sl 4 (List.map Q7 x0),.fn 217 [],ii x7,ii x8] [] [4] (Zc x0 x7 o):=
 QU.partial_correctness x0 x7 (fun x8 o=>LO 261 2 19 [0,1,7,8] [.sl 4 (List.map Q7 x0),.fn 217 [],ii x7,ii x8] [] [4] (Zc x0 x7 o))
 (fun QU Q6y x8 o h=>
 Lp2 (hs:=[(9,.split),(14,.e Q7),(16,.cb)]) (kb:=[]) (kbx:=[]) ((kIfD (p:=x8<x7) (kIx (enc:=Q7) (l:=x0) (k:=x8) fun v0=>(kCb (Sn v0) (kX (alts:=Zc x0 x7) (.inr x8) (.next (.here _ rfl (.refl _) (.refl _))))
 (kM0 (alts:=Zc x0 x7) (Q6y (wr (x8+(1:Int)))))))
 (kX (alts:=Zc x0 x7) (.inl ()) (.here _ rfl (.refl _) (.refl _)))) h)) x8 o h
def KE(x0:List Qi):Option Int:=
 some (List.length x0:Int)>>=fun v0=>
 some v0>>=fun v1=>
 QU x0 v0 (0:Int)>>=fun v2=>(match v2 with
 | (.inl v3)=>
 some (-1:Int)
 | (.inr v4)=>
 some v4)
theorem CG(x0:List Qi)(r:Int)(h:KE x0=some r):PU 261 [VX x0,.fn 217 []] (eI r):=
 Pu2 (hs:=[(7,.n eI 7 none),(3000003,.l [] [0,1,7,8] [] [4] [] (Zc x0))]) ((kN _ (mLen (sh:=Q7) x0) fun v0=>(kL2 v0 (hL:=(DF x0 v0 (0:Int))) (hA:=fun v1 v3=>(kEr (enc:=eI) (-1:Int)))
 (hB:=fun v1 v4=>(kEr (enc:=eI) v4)))) h)
def Xh(x0:List Qi):Option Bool:=
 KE x0>>=fun v0=>
 some (decide ((0:Int)≤v0))
theorem DB(x0:List Qi)(r:Bool)(h:Xh x0=some r):PU 214 [VX x0,.fn 217 []] (eB r):=
 Pu2 (hs:=[(7,.c eI)]) ((kC (sh:=eI) (CG x0) fun v0=>(kEr (enc:=eB) (decide ((0:Int)≤v0)))) h)
def Jx(s:Q1)(u:Unit)(o:Bool):List Alt:=jb o (fun b=>[.ptr 0 0 0,.bool b]) [.cells 0 (Q2 s).cells]
def Ws(x0:Q1):Option Bool:=
 some ()>>=fun v0=>
 (if x0.fOp==(3:Int) then
 VU x0.fName>>=fun v2=>if v2 then
 some false
 else
 some true
 else
 some false)>>=fun v1=>if v1 then
 some false
 else
 Xh x0.fIdx>>=fun v5=>
 some (!v5)
theorem Fx(x0:Q1)(r:Bool)(h:Ws x0=some r):PU 177 [Q2 x0] (eB r):=
 Pu2 (hs:=[(5,.split),(9,.cb),(14,.c eB),(5000001,.l [] [] [] [1,11] [kk 1] (Jx x0))]) ((kJb (id:=5000001) () (fun v0 a4 v1=>(kIf (c:=x0.fOp==(3:Int)) (kCb (C5 x0.fName) (kXj (alts:=Jx x0) a4 false (.next (.here () rfl (.refl _) (.refl _))))
 (kXj (alts:=Jx x0) a4 true (.here () rfl (.refl _) (.refl _))))
 (kXj (alts:=Jx x0) a4 false (.next (.here () rfl (.refl _) (.refl _))))))
 (fun v0=>(kEr (enc:=eB) false))
 (fun v0=>(kC (sh:=eB) (DB x0.fIdx) fun v5=>(kEr (enc:=eB) (!v5))))) h)
end Go.Proofs.YtolcgikajjkjgaaGreatDoor
end
noncomputable section
namespace Go.Proofs.YtolcgikajjkjgaaGreatDoor
open Go HY
set_option maxRecDepth 1000000
set_option linter.unusedVariables false
def NW(x0:Qi):Option Bool:=
 some (List.length x0.fAt:Int)>>=fun v0=>
 some (decide ((6:Int)<v0))
theorem AJ(x0:Qi)(r:Bool)(h:NW x0=some r):PU 219 [Q7 x0] (eB r):=
 Pu2 (hs:=[(5,.n eI 5 none)]) ((kN _ (mLen (sh:=Qg) x0.fAt) fun v0=>(kEr (enc:=eB) (decide ((6:Int)<v0)))) h)
def Zd(s:List Qi)(u:Int)(o:Unit ⊕ Int):List Alt:=[⟨fun(x:Unit)=>(Sum.inl x:Unit ⊕ Int)=o,.exit 0,fun x=>[.undef],fun x=>[]⟩,⟨fun(x:Int)=>(Sum.inr x:Unit ⊕ Int)=o,.ret,fun x=>[ii x],fun x=>[]⟩]
def QV(x0:List Qi)(x7:Int)(x8:Int):Option (Unit ⊕ Int):=
 if x8<x7 then
 ix x0 x8>>=fun v0=>
 NW v0>>=fun v1=>if v1 then
 some (.inr x8)
 else
 QV x0 x7 (wr (x8+(1:Int)))
 else
 some (.inl ())
 partial_fixpoint
theorem DG(x0:List Qi)(x7:Int)(x8:Int)(o:Unit ⊕ Int)(h:QV x0 x7 x8=some o):LO 261 2 19 [0,1,7,8] [.sl 4 (List.map Q7 x0),.fn 219 [],ii x7,ii x8] [] [4] (Zd x0 x7 o):=
 QV.partial_correctness x0 x7 (fun x8 o=>LO 261 2 19 [0,1,7,8] [.sl 4 (List.map Q7 x0),.fn 219 [],ii x7,ii x8] [] [4] (Zd x0 x7 o))
 (fun QV Q6z x8 o h=>
 Lp2 (hs:=[(9,.split),(14,.e Q7),(16,.cb)]) (kb:=[]) (kbx:=[]) ((kIfD (p:=x8<x7) (kIx (enc:=Q7) (l:=x0) (k:=x8) fun v0=>(kCb (AJ v0) (kX (alts:=Zd x0 x7) (.inr x8) (.next (.here _ rfl (.refl _) (.refl _))))
 (kM0 (alts:=Zd x0 x7) (Q6z (wr (x8+(1:Int)))))))
 (kX (alts:=Zd x0 x7) (.inl ()) (.here _ rfl (.refl _) (.refl _)))) h)) x8 o h
def KF(x0:List Qi):Option Int:=
 some (List.length x0:Int)>>=fun v0=>
 some v0>>=fun v1=>
 QV x0 v0 (0:Int)>>=fun v2=>(match v2 with
 | (.inl v3)=>
 some (-1:Int)
 | (.inr v4)=>
 some v4)
theorem CH(x0:List Qi)(r:Int)(h:KF x0=some r):PU 261 [VX x0,.fn 219 []] (eI r):=
 Pu2 (hs:=[(7,.n eI 7 none),(3000003,.l [] [0,1,7,8] [] [4] [] (Zd x0))]) ((kN _ (mLen (sh:=Q7) x0) fun v0=>(kL2 v0 (hL:=(DG x0 v0 (0:Int))) (hA:=fun v1 v3=>(kEr (enc:=eI) (-1:Int)))
 (hB:=fun v1 v4=>(kEr (enc:=eI) v4)))) h)
def Xi(x0:List Qi):Option Bool:=
 KF x0>>=fun v0=>
 some (decide ((0:Int)≤v0))
theorem DC(x0:List Qi)(r:Bool)(h:Xi x0=some r):PU 214 [VX x0,.fn 219 []] (eB r):=
 Pu2 (hs:=[(7,.c eI)]) ((kC (sh:=eI) (CH x0) fun v0=>(kEr (enc:=eB) (decide ((0:Int)≤v0)))) h)
def U5(s:Q1)(u:Unit)(o:Bool):List Alt:=jb o (fun b=>[.ptr 0 0 0,.bool b]) [.cells 0 (Q2 s).cells]
def Ns(x0:Q1):Option Bool:=
 some ()>>=fun v0=>
 (Dk x0.fOp>>=fun v2=>
 some (List.length x0.fArgs:Int)>>=fun v3=>
 if v3 !=v2 then
 some true
 else
 some (List.length x0.fIdx:Int)>>=fun v4=>
 if(6:Int)<v4 then
 some true
 else
 some false)>>=fun v1=>if v1 then
 some false
 else
 Xi x0.fIdx>>=fun v7=>
 some (!v7)
theorem Ot(x0:Q1)(r:Bool)(h:Ns x0=some r):PU 178 [Q2 x0] (eB r):=
 Pu2 (hs:=[(5,.n eI 5 none),(8,.c eI),(9,.split),(13,.n eI 13 none),(14,.split),(18,.c eB),(5000001,.l [] [] [] [1,15] [kk 1] (U5 x0))]) ((kJb (id:=5000001) () (fun v0 a4 v1=>(kC (sh:=eI) (T8 x0.fOp) fun v2=>(kN _ (mLen (sh:=Qr) x0.fArgs) fun v3=>(kIf (c:=v3 !=v2) (kXj (alts:=U5 x0) a4 true (.here () rfl (.refl _) (.refl _)))
 (kN _ (mLen (sh:=Q7) x0.fIdx) fun v4=>(kIfD (p:=(6:Int)<v4) (kXj (alts:=U5 x0) a4 true (.here () rfl (.refl _) (.refl _)))
 (kXj (alts:=U5 x0) a4 false (.next (.here () rfl (.refl _) (.refl _))))))))))
 (fun v0=>(kEr (enc:=eB) false))
 (fun v0=>(kC (sh:=eB) (DC x0.fIdx) fun v7=>(kEr (enc:=eB) (!v7))))) h)
end Go.Proofs.YtolcgikajjkjgaaGreatDoor
end
section
namespace Go.Proofs.YtolcgikajjkjgaaGreatDoor
open Go HY
set_option maxRecDepth 1000000
set_option linter.unusedVariables false
abbrev NxR(f r n:Nat)(ks:List Nat)(vs:List AV)(alts:List Alt)(xs:List (List AV))(bs:List Box):Prop:=NxtR Tryz.prog gls [] n (rng Tryz.prog f (r+1)).1 (rng Tryz.prog f (r+1)).2.1 (rng Tryz.prog f (r+1)).2.2 ks vs alts xs bs
section
variable {ρ : Type} {r : ρ}
theorem kIfE{c:Bool}{x y:Option ρ}{A B:Prop}(hA:c=true→x=some r→A)(hB:y=some r→B)(h:(if c=true then x else y)=some r):(c=true→A)∧(c=false→B):=by
 cases c with
 |true=>exact⟨fun _=>hA rfl h,nofun⟩
 |false=>exact⟨nofun,fun _=>hB h⟩
theorem kRg{α υ:Type}{x:Option α}{k:α→Option ρ}{IT:List (List AV)→Prop}{R:List (List AV)→υ→α→Prop}{A:α→Prop}(xs:List (List AV))(u:υ)(a3:IT xs)(hR:∀v,x=some v→R xs u v)(hA:∀v,k v=some r→A v)(h:(x>>=k)=some r):∃xs u o,IT xs∧R xs u o∧A o:=by
 cases x with
 |none=>cases h
 |some v=>exact⟨xs,u,v,a3,hR v rfl,hA v h⟩
theorem kNx{f r' n:Nat}{ks:List Nat}{vs:List AV}{α:Type}{alts:α→List Alt}{xs:List (List AV)}{bs:List Box}{x:Option α}{o:α}(hR:∀o,x=some o→RG f r' n ks vs (alts o) xs bs)(h:x=some o):LeVs vs vs∧NxR f r' n ks vs (alts o) xs bs:=⟨.refl _,⟨bs,.refl _,hR o h⟩⟩
theorem kOt{α:Type}{alts:α→List Alt}{e:Exit}{vs:List AV}{bs:List Box}{o:α}(v:α)(hO:Out (alts v) e vs bs)(h:some v=some o):LeVs vs vs∧Out (alts o) e vs bs:=by cases h;exact⟨.refl _,hO⟩
end
def Cw(u:Unit)(o:Int):List Alt:=[⟨fun(x:Int)=>x=o,.normal,fun x=>[.ptr 0 0 0],fun x=>[.cells 0 [.int .i64 x]]⟩,⟨fun(x:Int)=>x=o,.exit 0,fun x=>[.ptr 0 0 0],fun x=>[.cells 0 [.int .i64 x]]⟩]
noncomputable def UK:List Qb→Int→Option Int
 | [],c=>some c
 |e::t,c=>some (wr (c+1))>>=fun n=>if(2000:Int)<n then some n else UK t n
theorem IJ:∀(l:List Qb) (c o:Int),UK l c=some o→RG 145 3 12 [3] [.ptr 0 0 0] (Cw () o) (l.map fun y=>[Q2 y.f]) [.cells 0 [.int .i64 c]]
 | [],c,o,h=>by
  cases h;exact Rg0 rfl (.here _ rfl (.refl _) (.refl _))
 |e::t,c,o,h=>Rg1 (hs:=[(8,.n eI 8 none),(10,.split)]) (kb:=[{slot:=3}]) (kbx:=[{slot:=3}]) (by kernel_rfl) (by kernel_rfl)
  (kN _ (rfl:wr (c+1)=_) (fun n=>kIfD (p:=(2000:Int)<n) (kOt (alts:=Cw ()) n (.next (.here _ rfl (.refl _) (.refl _)))) (kNx (f:=145) (r':=3) (n:=12) (ks:=[3]) (vs:=[.ptr 0 0 0]) (alts:=Cw ()) (xs:=t.map fun y=>[Q2 y.f]) (bs:=[.cells 0 [.int .i64 n]]) (IJ t n))) h)
noncomputable def Nr(x0:Q1):Option Int:=Dd x0>>=fun w=>UK (Z2 (.mk w.1)) 0>>=fun v=>some v
theorem Oq(x0:Q1)(r:Int)(h:Nr x0=some r):PU 145 [Q2 x0] (eI r):=
 Pu1 (hs:=[(5,.c MO),(4000004,.l [] [3] [{slot:=3}] [3] [{slot:=3}] Cw)]) (by kernel_rfl)
  (kC (sh:=MO) (Lj x0) (fun w=>kRg (IT:=fun xs=>ItOk Tryz.prog gls 147 [.ip 13 [Q2 w.1] 0 0] xs) (R:=fun xs (u:Unit) o=>RG 145 3 12 [3] [.ptr 0 0 0] (Cw u o) xs [.cells 0 [.int .i64 0]]) (A:=fun o=>(∀x:Int,x=o→LeT (eI x) (eI r))∧∀x:Int,x=o→LeT (eI x) (eI r)) _ () (Sd w) (IJ _ 0)
   (fun v h=>by cases h;exact⟨fun x e=>by subst e;exact .refl _,fun x e=>by subst e;exact .refl _⟩)) h)
def Xj(i:Qi):List gLin:=i.fLin::i.fAt
def Uc(x:Q1):List gLin:=x.fLin::(x.fIdx.map Xj).flatten
abbrev Tv:= {x:Q1//x.fIdx.length≤4611686018427387904∧∀i∈x.fIdx,i.fAt.length≤4611686018427387904}
def Eb(x:Tv):AV:=.fn 221 [.ip 13 [Q2 x.1] 0 0]
theorem fr_in{l:Nat}{xs:List (List AV)}{m n:Nat}{b:List Qi}{nb ib:Int}{a:List gLin}(hn:a.length=n)(a4:n≤4611686018427387904):
  ∀(t p:List gLin) (k:Nat),a=p++t→k+t.length=m→(∀(j:Nat) (y:gLin),t[j]? =some y→xs[k+j]? =some [Qg y])→
   JLo 221 6 37 l xs [0,13,14,15,25,26,27] [yvl l,.sl 4 (b.map Q7),.int .i64 nb,.int .i64 ib,.sl 2 (a.map Qg),.int .i64 n,.int .i64 p.length] [] (some k) [0,13,14,15] (.exit 2,[yvl l,.sl 4 (b.map Q7),.int .i64 nb,.int .i64 ib]) (.ret,[yvl l,.sl 4 (b.map Q7),.int .i64 nb,.int .i64 ib]) m
 |t,p,k,ha,hm,hx=>by
  refine JL1 (φ:=(decide ((p.length:Int)<n)=true→∃x:gLin,((0:Int)≤p.length∧(a.map Qg)[Int.toNat p.length]? =some (Qg x))∧l=l∧xs[k]? =some [Qg x]∧
   NxtJ Tryz.prog gls l xs 37 (Jf Tryz.prog 221 (6+1)) [0,13,14,15,25,26,27] [0,13,14,15] (.exit 2,[yvl l,.sl 4 (b.map Q7),.int .i64 nb,.int .i64 ib]) (.ret,[yvl l,.sl 4 (b.map Q7),.int .i64 nb,.int .i64 ib]) m [yvl l,.sl 4 (b.map Q7),.int .i64 nb,.int .i64 ib,.sl 2 (a.map Qg),.int .i64 n,.int .i64 (wr ((p.length:Int)+1))] [] (some (k+1))∧
   JO (.exit 2,[yvl l,.sl 4 (b.map Q7),.int .i64 nb,.int .i64 ib]) (.ret,[yvl l,.sl 4 (b.map Q7),.int .i64 nb,.int .i64 ib]) m .ret none [yvl l,.sl 4 (b.map Q7),.int .i64 nb,.int .i64 ib] [])∧
   (decide ((p.length:Int)<n)=false→JO (.exit 2,[yvl l,.sl 4 (b.map Q7),.int .i64 nb,.int .i64 ib]) (.ret,[yvl l,.sl 4 (b.map Q7),.int .i64 nb,.int .i64 ib]) m (.exit 2) (some k) [yvl l,.sl 4 (b.map Q7),.int .i64 nb,.int .i64 ib] []))
   (hs:=[(28,.split),(29,.e Qg)]) (js:=[]) (kb:=[]) (by kernel_rfl) (by kernel_rfl) ⟨fun h=> ?_,fun h=> ?_⟩
  ·have h:=of_decide_eq_true h;cases t with
   |nil=>subst ha;simp at hn;omega
   |cons e t=>
    have a5:p.length<a.length:=by rw[ha];simp
    refine⟨e,⟨by omega,?_⟩,rfl,hx 0 e rfl,⟨_,_,?_,.refl _,fr_in hn a4 t (p++[e]) (k+1) (by rw[ha];simp) (by rw[← hm];simp;omega) (fun j y hj=> ?_)⟩,.b rfl rfl rfl⟩
    ·rw[List.getElem?_map,ha,Int.toNat_natCast,List.getElem?_append_right (Nat.le_refl _)];simp
    ·rw[show wr ((p.length:Int)+1)=((p++[e]).length:Int) by rw[Zw (by omega)];simp]
     exact .refl _
    ·rw[show k+1+j=k+(j+1) by omega]
     exact hx (j+1) y (by simpa using hj)
  ·have h:=of_decide_eq_false h;cases t with
   |nil=>exact .a rfl (by rw[← hm];rfl) rfl
   |cons e t=>rw[ha] at hn;simp at hn;omega
theorem fr_out{l:Nat}{xs:List (List AV)}{m n:Nat}{b:List Qi}(hn:b.length=n)(a7:n≤4611686018427387904)(hA:∀i∈b,i.fAt.length≤4611686018427387904):
  ∀(t p:List Qi) (k:Nat),b=p++t→k+((t.map Xj).flatten).length=m→(∀(j:Nat) (y:gLin),((t.map Xj).flatten)[j]? =some y→xs[k+j]? =some [Qg y])→
   JLo 221 2 37 l xs [0,13,14,15] [yvl l,.sl 4 (b.map Q7),.int .i64 n,.int .i64 p.length] [] (some k) [] (.exit 0,[]) (.ret,[]) m
 |t,p,k,ha,hm,hx=>by
  refine JL1 (φ:=(decide ((p.length:Int)<n)=true→∃x:Qi,((0:Int)≤p.length∧(b.map Q7)[Int.toNat p.length]? =some (Q7 x))∧l=l∧xs[k]? =some [Qg x.fLin]∧
   (∃q,JLo 221 6 37 l xs [0,13,14,15,25,26,27] [yvl l,.sl 4 (b.map Q7),.int .i64 n,.int .i64 p.length,.sl 2 (x.fAt.map Qg),.int .i64 ((x.fAt.map Qg).length:Nat),.int .i64 0] [] (some (k+1)) [0,13,14,15] (.exit 2,[yvl l,.sl 4 (b.map Q7),.int .i64 n,.int .i64 p.length]) (.ret,[yvl l,.sl 4 (b.map Q7),.int .i64 n,.int .i64 p.length]) q∧
    NxtJ Tryz.prog gls l xs 37 (Jf Tryz.prog 221 (2+1)) [0,13,14,15] [] (.exit 0,[]) (.ret,[]) m [yvl l,.sl 4 (b.map Q7),.int .i64 n,.int .i64 (wr ((p.length:Int)+1))] [] (some q)∧
    JO (.exit 0,[]) (.ret,[]) m .ret none [] [])∧
   JO (.exit 0,[]) (.ret,[]) m .ret none [] [])∧
   (decide ((p.length:Int)<n)=false→JO (.exit 0,[]) (.ret,[]) m (.exit 0) (some k) [] []))
   (hs:=[(16,.split),(17,.e Q7)]) (js:=[(7,⟨[0,13,14,15,25,26,27],[],[0,13,14,15],(.exit 2,[yvl l,.sl 4 (b.map Q7),.int .i64 n,.int .i64 p.length]),(.ret,[yvl l,.sl 4 (b.map Q7),.int .i64 n,.int .i64 p.length])⟩)]) (kb:=[]) (by kernel_rfl) (by kernel_rfl) ⟨fun h=> ?_,fun h=> ?_⟩
  ·have h:=of_decide_eq_true h;cases t with
   |nil=>subst ha;simp at hn;omega
   |cons e t=>
    have a8:p.length<b.length:=by rw[ha];simp
    have a5:=hA e (by rw[ha];simp)
    have a6:(((e::t).map Xj).flatten)=e.fLin::(e.fAt++(t.map Xj).flatten):=by simp[Xj]
    rw[a6] at hm hx;refine⟨e,⟨by omega,?_⟩,rfl,hx 0 _ rfl,⟨k+1+e.fAt.length,?_,⟨_,_,?_,.refl _,fr_out hn a7 hA t (p++[e]) (k+1+e.fAt.length) (by rw[ha];simp) (by rw[← hm];simp;omega) (fun j y hj=> ?_)⟩,.b rfl rfl rfl⟩,.b rfl rfl rfl⟩
    ·rw[List.getElem?_map,ha,Int.toNat_natCast,List.getElem?_append_right (Nat.le_refl _)];simp
    ·rw[List.length_map];exact fr_in (ib:=p.length) (nb:=n) rfl a5 e.fAt [] (k+1) rfl rfl (fun j y hj=>by
      rw[show k+1+j=k+(j+1) by omega]
      refine hx (j+1) y ?_;rw[List.getElem?_cons_succ,List.getElem?_append_left (List.getElem?_eq_some_iff.1 hj).1];exact hj)
    ·rw[show wr ((p.length:Int)+1)=((p++[e]).length:Int) by rw[Zw (by omega)];simp]
     exact .refl _
    ·rw[show k+1+e.fAt.length+j=k+(e.fAt.length+j+1) by omega]
     refine hx _ y ?_;rw[List.getElem?_cons_succ,List.getElem?_append_right (Nat.le_add_right _ _),Nat.add_sub_cancel_left];exact hj
  ·have h:=of_decide_eq_false h;cases t with
   |nil=>exact .a rfl (by rw[← hm];rfl) rfl
   |cons e t=>rw[ha] at hn;simp at hn;omega
theorem Q29(x:Tv):ItOk Tryz.prog gls 221 [.ip 13 [Q2 x.1] 0 0] ((Uc x.1).map fun y=>[Qg y]):=
 ItOk.of (D8 (by kernel_rfl)) false fun l=>by
  have hx:∀(j:Nat) (y:gLin),(Uc x.1)[j]? =some y→((Uc x.1).map fun y=>[Qg y])[j]? =some [Qg y]:=fun j y hj=>by rw[List.getElem?_map,hj];rfl
  generalize hxs:((Uc x.1).map fun y=>[Qg y])=xs at*
  have hl:xs.length=1+((x.1.fIdx.map Xj).flatten).length:=by rw[← hxs,List.length_map];simp only[Uc,List.length_cons];omega
  refine JF1 (φ:=l=l∧xs[0]? =some [Qg x.1.fLin]∧(∃q,JLo 221 2 37 l xs [0,13,14,15] [yvl l,.sl 4 (x.1.fIdx.map Q7),.int .i64 ((x.1.fIdx.map Q7).length:Nat),.int .i64 0] [] (some 1) [] (.exit 0,[]) (.ret,[]) q∧JQ false xs.length (.tup []) (some q)∧JQ false xs.length (.tup []) none)∧JQ false xs.length (.tup []) none)
   (hs:=[]) (js:=[(3,⟨[0,13,14,15],[],[],(.exit 0,[]),(.ret,[])⟩)]) (by kernel_rfl) ⟨rfl,hx 0 _ rfl,⟨1+((x.1.fIdx.map Xj).flatten).length,?_,⟨rfl,.inl (by rw[hl])⟩,⟨rfl,.inr rfl⟩⟩,⟨rfl,.inr rfl⟩⟩
  rw[List.length_map];exact fr_out rfl x.2.1 x.2.2 x.1.fIdx [] 1 rfl rfl (fun j y hj=>by
   rw[Nat.add_comm 1 j];exact hx (j+1) y (by rw[Uc,List.getElem?_cons_succ];exact hj))
open Classical in
noncomputable def Wr(x0:Q1):Option Tv:=if h:x0.fIdx.length≤4611686018427387904∧∀i∈x0.fIdx,i.fAt.length≤4611686018427387904 then some ⟨x0,h⟩ else none
theorem PO(x:Q1)(h:x.fIdx.length≤4611686018427387904∧∀i∈x.fIdx,i.fAt.length≤4611686018427387904):Wr x=some ⟨x,h⟩:=dif_pos h
theorem Fw(x0:Q1)(r:Tv)(h:Wr x0=some r):PU 180 [Q2 x0] (Eb r):=by
 unfold Wr at h;split at h
 ·cases h;exact Pu1 (φ:=LeT (.fn 221 [.ip 13 [Q2 x0] 0 0]) (.fn 221 [.ip 13 [Q2 x0] 0 0])) (hs:=[]) (by kernel_rfl) (.refl _)
 ·cases h
def VJ(u:Unit)(o:Bool):List Alt:=[⟨fun(x:Unit)=>o=true,.normal,fun x=>[.ptr 0 0 0],fun x=>[.cells 0 [.int .i64 0]]⟩,⟨fun(x:Unit)=>o=false,.ret,fun x=>[.ptr 0 0 0],fun x=>[.cells 0 [.int .i64 1]]⟩]
noncomputable def Jk:List gLin→Option Bool
 | []=>some true
 |e::t=>DY e>>=fun v=>if(v !=(0:Int))=true then some false else Jk t
theorem NJ:∀(l:List gLin) (o:Bool),Jk l=some o→RG 146 12 38 [2] [.ptr 0 0 0] (VJ () o) (l.map fun y=>[Qg y]) [.cells 0 [.int .i64 0]]
 | [],o,h=>by
  cases h;exact Rg0 rfl (.here () rfl (.refl _) (.refl _))
 |e::t,o,h=>Rg1 (hs:=[(36,.c eI),(37,.split)]) (kb:=[{slot:=2}]) (kbx:=[{slot:=2}]) (by kernel_rfl) (by kernel_rfl)
  (kC (sh:=eI) (Ss e) (fun v=>kIf (c:=v !=(0:Int)) (kOt (alts:=VJ ()) false (.next (.here () rfl (.refl _) (.refl _)))) (kNx (f:=146) (r':=12) (n:=38) (ks:=[2]) (vs:=[.ptr 0 0 0]) (alts:=VJ ()) (xs:=t.map fun y=>[Qg y]) (bs:=[.cells 0 [.int .i64 0]]) (NJ t))) h)
noncomputable def Jl(x0:Q1):Option Int:=Wr x0>>=fun w=>Jk (Uc w.1)>>=fun v=>some (if v then 0 else 1)
noncomputable def GK(x0:Q1):Option Int:=
 CS x0>>=fun v0=>if v0=true then(Ws x0>>=fun v1=>if v1=true then(Ns x0>>=fun v2=>if v2=true then(Wu x0>>=fun v3=>if v3=true then
  (if(x0.fOp==(1:Int))=true then D7 x0.fType x0.fVal>>=fun v4=>if v4=true then Jl x0 else some 1 else Jl x0)
  else some 10) else some 11) else some 7) else some 5
theorem MD(x0:Q1)(r:Int)(h:Jl x0=some r):∃w,PU 180 [Q2 x0] (Eb w)∧∃xs u o,ItOk Tryz.prog gls 221 [.ip 13 [Q2 w.1] 0 0] xs∧RG 146 12 38 [2] [.ptr 0 0 0] (VJ u o) xs [.cells 0 [.int .i64 0]]∧(∀x:Unit,o=true→LeT (eI 0) (eI r))∧∀x:Unit,o=false→LeT (eI 1) (eI r):=
 kC (sh:=Eb) (Fw x0) (fun w=>kRg (IT:=fun xs=>ItOk Tryz.prog gls 221 [.ip 13 [Q2 w.1] 0 0] xs) (R:=fun xs (u:Unit) o=>RG 146 12 38 [2] [.ptr 0 0 0] (VJ u o) xs [.cells 0 [.int .i64 0]]) (A:=fun o=>(∀x:Unit,o=true→LeT (eI 0) (eI r))∧∀x:Unit,o=false→LeT (eI 1) (eI r)) _ () (Q29 w) (NJ _)
   (fun v h=>by cases h;exact⟨fun x e=>by subst e;exact .refl _,fun x e=>by subst e;exact .refl _⟩)) h
theorem Re(x0:Q1)(r:Int)(h:GK x0=some r):PU 146 [Q2 x0] (eI r):=
 Pu1 (hs:=[(6,.cb),(10,.cb),(14,.cb),(18,.cb),(23,.split),(29,.cb),(33,.c Eb),(4000013,.l [] [2] [{slot:=2}] [2] [{slot:=2}] VJ)]) (by kernel_rfl)
  (kCb (AK x0) (kCb (Fx x0) (kCb (Ot x0) (kCb (Fy x0) (kIf (c:=x0.fOp==(1:Int)) (kCb (IP x0.fType x0.fVal) (MD x0 r) (kEr (enc:=eI) 1)) (MD x0 r))
   (kEr (enc:=eI) 10)) (kEr (enc:=eI) 11)) (kEr (enc:=eI) 7)) (kEr (enc:=eI) 5) h)
def UR(u:Unit)(o:Int):List Alt:=[⟨fun(x:Unit)=>o=0,.normal,fun x=>[.ptr 0 0 0],fun x=>[.cells 0 [.int .i64 0]]⟩,⟨fun(x:Unit)=>¬o=0,.ret,fun x=>[.ptr 0 0 0],fun x=>[.cells 0 [.int .i64 o]]⟩]
noncomputable def U1:List Qb→Option Int
 | []=>some 0
 |e::t=>GK e.f>>=fun v=>if(v !=(0:Int))=true then some v else U1 t
theorem M8:∀(l:List Qb) (o:Int),U1 l=some o→RG 121 6 19 [2] [.ptr 0 0 0] (UR () o) (l.map fun y=>[Q2 y.f]) [.cells 0 [.int .i64 0]]
 | [],o,h=>by
  cases h;exact Rg0 rfl (.here () rfl (.refl _) (.refl _))
 |e::t,o,h=>Rg1 (hs:=[(15,.c eI),(17,.split)]) (kb:=[{slot:=2}]) (kbx:=[{slot:=2}]) (by kernel_rfl) (by kernel_rfl)
  (kC (sh:=eI) (Re e.f) (fun v=>kIfE (c:=v !=(0:Int)) (fun hc=>kOt (alts:=UR ()) v (.next (.here () (by simpa using hc) (.refl _) (.refl _)))) (kNx (f:=121) (r':=6) (n:=19) (ks:=[2]) (vs:=[.ptr 0 0 0]) (alts:=UR ()) (xs:=t.map fun y=>[Q2 y.f]) (bs:=[.cells 0 [.int .i64 0]]) (M8 t))) h)
noncomputable def Dj(x0:Q1):Option Int:=
 MC x0>>=fun v0=>if(40:Int)<v0 then some 13 else Nr x0>>=fun v1=>if(2000:Int)<v1 then some 2 else Dd x0>>=fun w=>U1 (Z2 (.mk w.1))>>=fun v=>some v
theorem T7(x0:Q1)(r:Int)(h:Dj x0=some r):PU 121 [Q2 x0] (eI r):=
 Pu1 (hs:=[(6,.c eI),(7,.split),(9,.c eI),(10,.split),(12,.c MO),(4000007,.l [] [2] [{slot:=2}] [2] [{slot:=2}] UR)]) (by kernel_rfl)
  (kC (sh:=eI) (Fu x0) (fun v0=>kIfD (p:=(40:Int)<v0) (kEr (enc:=eI) 13) (kC (sh:=eI) (Oq x0) (fun v1=>kIfD (p:=(2000:Int)<v1) (kEr (enc:=eI) 2)
   (kC (sh:=MO) (Lj x0) (fun w=>kRg (IT:=fun xs=>ItOk Tryz.prog gls 147 [.ip 13 [Q2 w.1] 0 0] xs) (R:=fun xs (u:Unit) o=>RG 121 6 19 [2] [.ptr 0 0 0] (UR u o) xs [.cells 0 [.int .i64 0]]) (A:=fun o=>(∀x:Unit,o=0→LeT (eI 0) (eI r))∧∀x:Unit,¬o=0→LeT (eI o) (eI r)) _ () (Sd w) (M8 _)
    (fun v h=>by cases h;exact⟨fun x e=>by subst e;exact .refl _,fun x e=>.refl _⟩)))))) h)
def hCk(c:Q0):AV:=.ip 5 [Hy c] 0 0
def Xu(s:Q1×Q0)(u:Unit)(o:Int):List Alt:=[⟨fun(x:Unit)=>o=0,.normal,fun x=>[.ip 1 [.agg [hCk s.2]] 0 0,.ptr 0 0 0,.ptr 1 0 0,.ptr 2 0 0],fun x=>[.cells 0 (Q2 s.1).cells,.cells 0 (Qc ⟨0,0,0,0,0⟩).cells,.cells 0 [.int .i64 0]]⟩,
 ⟨fun(x:Unit)=>¬o=0,.ret,fun x=>[.ip 1 [.agg [hCk s.2]] 0 0,.ptr 0 0 0,.ptr 1 0 0,.ptr 2 0 0],fun x=>[.cells 0 (Q2 s.1).cells,.cells 0 (Qc ⟨0,0,0,0,0⟩).cells,.cells 0 [.int .i64 o]]⟩]
noncomputable def X3(c:Q0):List Qb→Option Int
 | []=>some 0
 |e::t=>VA c e.f>>=fun v=>if(v !=(0:Int))=true then some v else X3 c t
theorem UG(c:Q0)(x:Q1):∀(l:List Qb) (o:Int),X3 c l=some o→RG 98 5 30 [2,3,4,5] [.ip 1 [.agg [hCk c]] 0 0,.ptr 0 0 0,.ptr 1 0 0,.ptr 2 0 0] (Xu (x,c) () o) (l.map fun y=>[Q2 y.f]) [.cells 0 (Q2 x).cells,.cells 0 (Qc ⟨0,0,0,0,0⟩).cells,.cells 0 [.int .i64 0]]
 | [],o,h=>by
  cases h;exact Rg0 rfl (.here () rfl (.refl _) (.refl _))
 |e::t,o,h=>Rg1 (hs:=[(20,.c eI),(22,.split)]) (kb:=[{slot:=3},{slot:=4},{slot:=5}]) (kbx:=[{slot:=3},{slot:=4},{slot:=5}]) (by kernel_rfl) (by kernel_rfl)
  (kC (sh:=eI) (L5 c e.f) (fun v=>kIfE (c:=v !=(0:Int)) (fun hc=>kOt (alts:=Xu (x,c) ()) v (.next (.here () (by simpa using hc) (.refl _) (.refl _)))) (kNx (f:=98) (r':=5) (n:=30) (ks:=[2,3,4,5]) (vs:=[.ip 1 [.agg [hCk c]] 0 0,.ptr 0 0 0,.ptr 1 0 0,.ptr 2 0 0]) (alts:=Xu (x,c) ()) (xs:=t.map fun y=>[Q2 y.f]) (bs:=[.cells 0 (Q2 x).cells,.cells 0 (Qc ⟨0,0,0,0,0⟩).cells,.cells 0 [.int .i64 0]]) (UG c x t))) h)
noncomputable def ZI(c:Q0)(x:Q1):Option (Q6×Int):=
 Dj x>>=fun v0=>if(v0 !=(0:Int))=true then some (⟨0,0,0,0,0⟩,v0) else Dd x>>=fun w=>X3 c (Z2 (.mk w.1))>>=fun v=>if v=0 then Ze c x>>=fun q=>some (q.1,q.2) else some (⟨0,0,0,0,0⟩,v)
theorem kSelP{r:Q6×Int}{p:Prop} [Decidable p] {x:Option (Q6×Int)} {y:Q6×Int} {A:Prop} (hA:x=some r→A) (h:(if p then x else some y)=some r):(Unit→p→A)∧(Unit→¬p→LeT (Qm y) (Qm r)):=by
 by_cases hp:p;·rw[if_pos hp] at h;exact⟨fun _ _=>hA h,fun _ e=>absurd hp e⟩
 ·rw[if_neg hp] at h;cases h;exact⟨fun _ e=>absurd e hp,fun _ _=>.refl _⟩
theorem Vv(c:Q0)(x:Q1)(r:Q6×Int)(h:ZI c x=some r):PU 98 [hCk c,Q2 x] (Qm r):=
 Pu1 (hs:=[(3,.z [{slot:=2,fz:=true}] none),(10,.c eI),(12,.split),(16,.c MO),(4000006,.l [] [2,3,4,5] [{slot:=3},{slot:=4},{slot:=5}] [2,3,4,5] [{slot:=3},{slot:=4},{slot:=5}] (Xu (x,c))),(27,.c Qm)]) (by kernel_rfl)
  (kC (sh:=eI) (T7 x) (fun v0=>kIf (c:=v0 !=(0:Int)) (kEr (enc:=Qm) (⟨0,0,0,0,0⟩,v0))
   (kC (sh:=MO) (Lj x) (fun w=>kRg (IT:=fun xs=>ItOk Tryz.prog gls 147 [.ip 13 [Q2 w.1] 0 0] xs) (R:=fun xs (u:Unit) o=>RG 98 5 30 [2,3,4,5] [.ip 1 [.agg [hCk c]] 0 0,.ptr 0 0 0,.ptr 1 0 0,.ptr 2 0 0] (Xu (x,c) u o) xs [.cells 0 (Q2 x).cells,.cells 0 (Qc ⟨0,0,0,0,0⟩).cells,.cells 0 [.int .i64 0]])
    (A:=fun o=>(Unit→o=0→∃q,PU 124 [hCk c,Q2 x] (Qm q)∧LeT (Qm q) (Qm r))∧(Unit→¬o=0→LeT (Qm (⟨0,0,0,0,0⟩,o)) (Qm r))) _ () (Sd w) (UG c x _)
    (fun v=>kSelP (kC (sh:=Qm) (Mb c x) (fun q=>kEr (enc:=Qm) (q.1,q.2))))))) h)
end Go.Proofs.YtolcgikajjkjgaaGreatDoor
end
noncomputable section
namespace Go.Proofs.YtolcgikajjkjgaaGreatDoor
open Go HY
set_option maxRecDepth 1000000
set_option linter.unusedVariables false
def ZR(s:(Q0×Qw))(u:Q6)(o:Bool):List Alt:=jb o (fun b=>[.ip 5 [.agg [.sl 8 (List.map Q5 (s.1).fnest.fBufs),.sl 20 (List.map Qh (s.1).fnest.fBody),.sl 1 (List.map eS (s.1).floops),.sl 1 (List.map eS (s.1).fscope),.sl 1 (List.map eI (s.1).fpath)]] 0 0,.ptr 0 0 0,.ptr 1 0 0,.bool b]) [.cells 0 (Qx (s.2)).cells,.cells 0 (Qc u).cells]
def XQ(s:Unit)(u:Unit)(o:Bool):List Alt:=jb o (fun b=>[.bool b]) []
def Vg(x0:Q0)(x1:Qw):Option Int:=
 some ((KG.mk (3:Int) x1.fName (gVal.mk (0:Int) (0:Int)) (Q6.mk (0:Int) (0:Int) (0:Int) (0:Int) (0:Int)) (gLin.mk (0:Int) []) x1.fIdx []:Q1))>>=fun v0=>
 ZI x0 v0>>=fun v1=>
 if v1.snd !=(0:Int) then
 some v1.snd
 else
 Yp x0.fnest x1.fName>>=fun v2=>
 if v2.fst.fUse==(1:Int) then
 some (1:Int)
 else
 some v1.fst>>=fun v3=>
 (if x1.fOp==(3:Int) then
 if x1.fFold< (1:Int) then
 some true
 else
 if(4:Int)<x1.fFold then
 some true
 else
 some false
 else
 some false)>>=fun v4=>if v4 then
 some (1:Int)
 else
 ZI x0 x1.fExpr>>=fun v7=>
 if v7.snd !=(0:Int) then
 some v7.snd
 else
 some ()>>=fun v8=>
 (YU x1.fExpr>>=fun a7=>if a7 then
 some true
 else
 if !(v7.fst.fKind==v3.fKind&& (v7.fst.fBits==v3.fBits&& (v7.fst.fFrac==v3.fFrac&& (v7.fst.fRound==v3.fRound&& (v7.fst.fOver==v3.fOver&&true))))) then
 some true
 else
 some false)>>=fun v9=>if v9 then
 some (10:Int)
 else
 some (0:Int)
theorem MG(x0:Q0)(x1:Qw)(r:Int)(h:Vg x0 x1=some r):PU 100 [.ip 5 [.agg [.sl 8 (List.map Q5 x0.fnest.fBufs),.sl 20 (List.map Qh x0.fnest.fBody),.sl 1 (List.map eS x0.floops),.sl 1 (List.map eS x0.fscope),.sl 1 (List.map eI x0.fpath)]] 0 0,Qx x1] (eI r):=
 Pu2 (hs:=[(16,.n Q2 16 none),(17,.c Qm),(21,.split),(30,.c QD),(35,.split),(38,.split),(42,.split),(46,.split),(53,.c Qm),(57,.split),(61,.cb),(65,.split),(5000007,.l [] [] [] [0,3,5,48] [kk 3,kk 5] (ZR (x0,x1))),(5000012,.l [] [] [] [66] [] (XQ ()))]) ((kW (sh:=Q2) (KG.mk (3:Int) x1.fName (gVal.mk (0:Int) (0:Int)) (Q6.mk (0:Int) (0:Int) (0:Int) (0:Int) (0:Int)) (gLin.mk (0:Int) []) x1.fIdx []:Q1) (LeV.agg (.cons (LeV.refl (ii (3:Int))) (.cons (LeV.refl (AV.str x1.fName)) (.cons (LeV.refl (ii (0:Int))) (.cons (LeV.refl (ii (0:Int))) (.cons (LeV.refl (ii (0:Int))) (.cons (LeV.refl (ii (0:Int))) (.cons (LeV.refl (ii (0:Int))) (.cons (LeV.refl (ii (0:Int))) (.cons (LeV.refl (ii (0:Int))) (.cons (LeV.refl (ii (0:Int))) (.cons (LeV.nil 2) (.cons (LeV.refl (AV.sl (4:Nat) (List.map Q7 x1.fIdx))) (.cons (LeV.nil 13) .nil)))))))))))))) fun v0=>(kC (sh:=Qm) (Vv x0 v0) fun v1=>(kIf (c:=v1.snd !=(0:Int)) (kEr (enc:=eI) v1.snd)
 (kC (sh:=QD) (U2 x0.fnest x1.fName) fun v2=>(kIf (c:=v2.fst.fUse==(1:Int)) (kEr (enc:=eI) (1:Int))
 (kJb (id:=5000007) v1.fst (fun v3 a5 v4=>(kIf (c:=x1.fOp==(3:Int)) (kIfD (p:=x1.fFold< (1:Int)) (kXj (alts:=ZR (x0,x1)) a5 true (.here () rfl (.refl _) (.refl _)))
 (kIfD (p:=(4:Int)<x1.fFold) (kXj (alts:=ZR (x0,x1)) a5 true (.here () rfl (.refl _) (.refl _)))
 (kXj (alts:=ZR (x0,x1)) a5 false (.next (.here () rfl (.refl _) (.refl _))))))
 (kXj (alts:=ZR (x0,x1)) a5 false (.next (.here () rfl (.refl _) (.refl _))))))
 (fun v3=>(kEr (enc:=eI) (1:Int)))
 (fun v3=>(kC (sh:=Qm) (Vv x0 x1.fExpr) fun v7=>(kIf (c:=v7.snd !=(0:Int)) (kEr (enc:=eI) v7.snd)
 (kJb (id:=5000012) () (fun v8 a6 v9=>(kCb (G0 x1.fExpr) (kXj (alts:=XQ ()) a6 true (.here () rfl (.refl _) (.refl _)))
 (kIf (c:= !(v7.fst.fKind==v3.fKind&& (v7.fst.fBits==v3.fBits&& (v7.fst.fFrac==v3.fFrac&& (v7.fst.fRound==v3.fRound&& (v7.fst.fOver==v3.fOver&&true)))))) (kXj (alts:=XQ ()) a6 true (.here () rfl (.refl _) (.refl _)))
 (kXj (alts:=XQ ()) a6 false (.next (.here () rfl (.refl _) (.refl _)))))))
 (fun v8=>(kEr (enc:=eI) (10:Int)))
 (fun v8=>(kEr (enc:=eI) (0:Int))))))))))))) h)
def K9(x0:Q0)(x1:Qw):Option Int:=
 Gn x1>>=fun v0=>if v0 then
 if x1.fOp==(1:Int) then
 Vz x0 x1>>=fun v1=>
 some v1
 else
 if x1.fOp==(4:Int) then
 ZI x0 x1.fExpr>>=fun v2=>
 if v2.snd !=(0:Int) then
 some v2.snd
 else
 YU x1.fExpr>>=fun v3=>if v3 then
 some (0:Int)
 else
 some (10:Int)
 else
 Vg x0 x1>>=fun v4=>
 some v4
 else
 some (5:Int)
theorem Ni(x0:Q0)(x1:Qw)(r:Int)(h:K9 x0 x1=some r):PU 76 [.ip 5 [.agg [.sl 8 (List.map Q5 x0.fnest.fBufs),.sl 20 (List.map Qh x0.fnest.fBody),.sl 1 (List.map eS x0.floops),.sl 1 (List.map eS x0.fscope),.sl 1 (List.map eI x0.fpath)]] 0 0,Qx x1] (eI r):=
 Pu2 (hs:=[(8,.cb),(13,.split),(16,.c eI),(18,.split),(23,.c Qm),(27,.split),(31,.cb),(35,.c eI)]) ((kCb (EK x1) (kIf (c:=x1.fOp==(1:Int)) (kC (sh:=eI) (L4 x0 x1) fun v1=>(kEr (enc:=eI) v1))
 (kIf (c:=x1.fOp==(4:Int)) (kC (sh:=Qm) (Vv x0 x1.fExpr) fun v2=>(kIf (c:=v2.snd !=(0:Int)) (kEr (enc:=eI) v2.snd)
 (kCb (G0 x1.fExpr) (kEr (enc:=eI) (0:Int))
 (kEr (enc:=eI) (10:Int)))))
 (kC (sh:=eI) (MG x0 x1) fun v4=>(kEr (enc:=eI) v4))))
 (kEr (enc:=eI) (5:Int))) h)
def QQ(r:(Int×Q0)):AV:=eI r.1
def QO(r:(Int×Q0)):List Box:=[.cells 0 [.sl 8 (List.map Q5 r.2.fnest.fBufs),.sl 20 (List.map Qh r.2.fnest.fBody),.ow 1 0 1 (List.length r.2.floops),.ow 2 0 1 (List.length r.2.fscope),.ow 3 0 1 (List.length r.2.fpath)],.own 0 1 (List.map eS r.2.floops),.own 0 1 (List.map eS r.2.fscope),.own 0 1 (List.map eI r.2.fpath)]
def Z9(s:List Qe)(u:Int)(o:Q0 ⊕ (Q0×Int)):List Alt:=[⟨fun(x:Q0)=>(Sum.inl x:Q0 ⊕ (Q0×Int))=o,.exit 0,fun x=>[.ptr 0 0 0,.undef],fun x=>[.cells 0 [.sl 8 (List.map Q5 x.fnest.fBufs),.sl 20 (List.map Qh x.fnest.fBody),.ow 1 0 1 (List.length x.floops),.ow 2 0 1 (List.length x.fscope),.ow 3 0 1 (List.length x.fpath)],.own 0 1 (List.map eS x.floops),.own 0 1 (List.map eS x.fscope),.own 0 1 (List.map eI x.fpath)]⟩,⟨fun(x:(Q0×Int))=>(Sum.inr x:Q0 ⊕ (Q0×Int))=o,.ret,fun x=>[.ptr 0 0 0,ii x.2],fun x=>[.cells 0 [.sl 8 (List.map Q5 x.1.fnest.fBufs),.sl 20 (List.map Qh x.1.fnest.fBody),.ow 1 0 1 (List.length x.1.floops),.ow 2 0 1 (List.length x.1.fscope),.ow 3 0 1 (List.length x.1.fpath)],.own 0 1 (List.map eS x.1.floops),.own 0 1 (List.map eS x.1.fscope),.own 0 1 (List.map eI x.1.fpath)]⟩]
def Ys(s:((List Qe)×Int))(u:(Qw×Int×Int))(o:Q0):List Alt:=[⟨fun(x:Q0)=>x=o,.normal,fun x=>[.ptr 0 0 0,.sl 20 (List.map Qh (s.1)),.ptr 4 0 0,ii (u.2.1),ii (s.2),ii (u.2.2)],fun x=>[.cells 0 [.sl 8 (List.map Q5 x.fnest.fBufs),.sl 20 (List.map Qh x.fnest.fBody),.ow 1 0 1 (List.length x.floops),.ow 2 0 1 (List.length x.fscope),.ow 3 0 1 (List.length x.fpath)],.own 0 1 (List.map eS x.floops),.own 0 1 (List.map eS x.fscope),.own 0 1 (List.map eI x.fpath),.cells 0 (Qx (u.1)).cells]⟩]
mutual
def QP(x0:Q0)(x1:List Qe):Option (Int×Q0):=
 some (List.length x1:Int)>>=fun v0=>
 some v0>>=fun v1=>
 QE x0 x1 v0 (0:Int)>>=fun v2=>(match v2 with
 | (.inl v3)=>
 some ((0:Int),v3)
 | (.inr v4)=>
 some (v4.snd,v4.fst))
 partial_fixpoint
def QE(x0:Q0)(x1:List Qe)(a8:Int)(a5:Int):Option (Q0 ⊕ (Q0×Int)):=
 if a5<a8 then
 Option.map Qe.f (ix x1 a5)>>=fun v0=>
 if(x0.fpath.length+(1:Nat))*(8:Nat)≤(140737488355328:Nat)∧x0.fpath.length+(1:Nat)≤(9223372036854775807:Nat) then
 some (x0.fpath++[a5])>>=fun v1=>
 K9 (Q0.mk x0.fnest x0.floops x0.fscope v1) v0>>=fun v2=>
 if v2 !=(0:Int) then
 some (.inr ((Q0.mk x0.fnest x0.floops x0.fscope v1),v2))
 else
 some ((↑x0.fscope.length:Int):Int)>>=fun v3=>
 some (v0,v3,a5)>>=fun v4=>
 (if v0.fOp==(1:Int) then
 if(x0.floops.length+(1:Nat))*(16:Nat)≤(140737488355328:Nat)∧x0.floops.length+(1:Nat)≤(9223372036854775807:Nat) then
 if(x0.fscope.length+(1:Nat))*(16:Nat)≤(140737488355328:Nat)∧x0.fscope.length+(1:Nat)≤(9223372036854775807:Nat) then
 some (Q0.mk x0.fnest (x0.floops++[v0.fName]) (x0.fscope++[v0.fName]) v1)
 else none
 else none
 else
 some (Q0.mk x0.fnest x0.floops x0.fscope v1))>>=fun v6=>
 QP v6 v4.fst.fBody>>=fun v7=>
 if v7.fst !=(0:Int) then
 some (.inr (v7.snd,v7.fst))
 else
 if(0:Int)=(0:Int)∧(0:Int)≤v4.snd.fst∧v4.snd.fst≤(↑v7.snd.fscope.length:Int) then
 if List.length (List.take v4.snd.fst.toNat v7.snd.fscope)=v4.snd.fst.toNat then
 some (List.take v4.snd.fst.toNat v7.snd.fscope)>>=fun v8=>
 if(0:Int)=(0:Int)∧(0:Int)≤wr ((↑v7.snd.fpath.length:Int) - (1:Int))∧wr ((↑v7.snd.fpath.length:Int) - (1:Int))≤(↑v7.snd.fpath.length:Int) then
 some ((↑v7.snd.fpath.length:Int):Int)>>=fun v9=>
 if List.length (List.take ((wr ((↑v7.snd.fpath.length:Int) - (1:Int))).toNat) v7.snd.fpath)=((wr ((↑v7.snd.fpath.length:Int) - (1:Int))).toNat) then
 some (List.take ((wr ((↑v7.snd.fpath.length:Int) - (1:Int))).toNat) v7.snd.fpath)>>=fun aa=>
 QE (Q0.mk v7.snd.fnest v7.snd.floops v8 aa) x1 a8 (wr (v4.snd.snd+(1:Int)))
 else none
 else none
 else none
 else none
 else none
 else
 some (.inl x0)
 partial_fixpoint
end
theorem WM:(∀(x0:Q0) (x1:List Qe) (r:(Int×Q0)),QP x0 x1=some r→PH 47 [.ptr 0 0 0,X8 x1] [.cells 0 [.sl 8 (List.map Q5 x0.fnest.fBufs),.sl 20 (List.map Qh x0.fnest.fBody),.ow 1 0 1 (List.length x0.floops),.ow 2 0 1 (List.length x0.fscope),.ow 3 0 1 (List.length x0.fpath)],.own 0 1 (List.map eS x0.floops),.own 0 1 (List.map eS x0.fscope),.own 0 1 (List.map eI x0.fpath)] (QQ r) (QO r))∧(∀(x0:Q0) (x1:List Qe) (a4:Int) (a7:Int) (o:Q0 ⊕ (Q0×Int)),QE x0 x1 a4 a7=some o→LOp [.ptr 0 0 0] 47 2 96 [0,1,11,12] [.ptr 0 0 0,.sl 20 (List.map Qh x1),ii a4,ii a7] [.cells 0 [.sl 8 (List.map Q5 x0.fnest.fBufs),.sl 20 (List.map Qh x0.fnest.fBody),.ow 1 0 1 (List.length x0.floops),.ow 2 0 1 (List.length x0.fscope),.ow 3 0 1 (List.length x0.fpath)],.own 0 1 (List.map eS x0.floops),.own 0 1 (List.map eS x0.fscope),.own 0 1 (List.map eI x0.fpath)] [0,4] (Z9 x1 a4 o)):=
 QP.mutual_partial_correctness (fun x0 x1 r=>PH 47 [.ptr 0 0 0,X8 x1] [.cells 0 [.sl 8 (List.map Q5 x0.fnest.fBufs),.sl 20 (List.map Qh x0.fnest.fBody),.ow 1 0 1 (List.length x0.floops),.ow 2 0 1 (List.length x0.fscope),.ow 3 0 1 (List.length x0.fpath)],.own 0 1 (List.map eS x0.floops),.own 0 1 (List.map eS x0.fscope),.own 0 1 (List.map eI x0.fpath)] (QQ r) (QO r)) (fun x0 x1 a4 a7 o=>LOp [.ptr 0 0 0] 47 2 96 [0,1,11,12] [.ptr 0 0 0,.sl 20 (List.map Qh x1),ii a4,ii a7] [.cells 0 [.sl 8 (List.map Q5 x0.fnest.fBufs),.sl 20 (List.map Qh x0.fnest.fBody),.ow 1 0 1 (List.length x0.floops),.ow 2 0 1 (List.length x0.fscope),.ow 3 0 1 (List.length x0.fpath)],.own 0 1 (List.map eS x0.floops),.own 0 1 (List.map eS x0.fscope),.own 0 1 (List.map eI x0.fpath)] [0,4] (Z9 x1 a4 o))
 (fun QE Q5a x0 x1 r h=>
 PuH2 (hs:=[(11,.n eI 11 none),(3000003,.l [] [0,1,11,12] [kk 0,{slot:=0,path:=[2],own:=1},{slot:=0,path:=[3],own:=1},{slot:=0,path:=[4],own:=1}] [0,4] [kk 0,{slot:=0,path:=[2],own:=1},{slot:=0,path:=[3],own:=1},{slot:=0,path:=[4],own:=1}] (Z9 x1))]) (kb:=[kk 1,{slot:=1,path:=[2],own:=1},{slot:=1,path:=[3],own:=1},{slot:=1,path:=[4],own:=1}]) ((kN _ (mLen (sh:=Qh) x1) fun v0=>(kL2 v0 (hL:=(Q5a x0 x1 v0 (0:Int))) (hA:=fun v1 v3=>(kEH (enc:=QQ) (bt:=QO) ((0:Int),v3) ⟨.refl _,.refl _⟩))
 (hB:=fun v1 v4=>(kEH (enc:=QQ) (bt:=QO) (v4.snd,v4.fst) ⟨.refl _,.refl _⟩)))) h))
 (fun QP QE Q59 Q5a x0 x1 a4 a7 o h=>
 Lp1p (hs:=[(13,.split),(17,.e Qx),(26,.z [{slot:=23,own:=1}] (some (.n eI 26 (some .a)))),(31,.c eI),(33,.split),(39,.n eI 39 none),(42,.split),(51,.a),(62,.a),(68,.h [kk 0,{slot:=0,path:=[2],own:=1},{slot:=0,path:=[3],own:=1},{slot:=0,path:=[4],own:=1}] QQ QO),(70,.split),(78,.s),(90,.n eI 90 none),(92,.s),(79,.z [{slot:=78,own:=1,cut:=true}] (some (.n eS 78 none))),(93,.z [{slot:=92,own:=1,cut:=true}] (some (.n eI 92 none))),(6000012,.l [] [] [] [0,1,6,8,11,12] [kk 0,{slot:=0,path:=[2],own:=1},{slot:=0,path:=[3],own:=1},{slot:=0,path:=[4],own:=1},kk 6] (Ys (x1,a4)))]) (kb:=[kk 0,{slot:=0,path:=[2],own:=1},{slot:=0,path:=[3],own:=1},{slot:=0,path:=[4],own:=1}]) (kbx:=[kk 0,{slot:=0,path:=[2],own:=1},{slot:=0,path:=[3],own:=1},{slot:=0,path:=[4],own:=1}]) (by kernel_rfl) (by kernel_rfl) ((kIfD (p:=a7<a4) (kIxR (l:=x1) (k:=a7) Yu fun v0=>(kA (q:=(x0.fpath.length+(1:Nat))*(8:Nat)≤(140737488355328:Nat)∧x0.fpath.length+(1:Nat)≤(9223372036854775807:Nat)) (sh:=eI) (l:=x0.fpath) (kO (sh:=eI) (x0.fpath++[a7]) (mA (sh:=eI) x0.fpath a7) (nA x0.fpath a7) fun v1=>(kT (nM (sh:=eS) x0.floops) (kT (nM (sh:=eS) x0.fscope) (kT (nM (sh:=eI) v1) (kC (sh:=eI) (Ni (Q0.mk x0.fnest x0.floops x0.fscope v1) v0) fun v2=>(kIf (c:=v2 !=(0:Int)) (kX (alts:=Z9 x1 a4) (.inr ((Q0.mk x0.fnest x0.floops x0.fscope v1),v2)) (.next (.here _ rfl (.refl _) (.refl _))))
 (kN (↑x0.fscope.length:Int) rfl fun v3=>(kJ1 (id:=6000012) (v0,v3,a7) (fun v4 ab v5=>(kIf (c:=v0.fOp==(1:Int)) (kA (q:=(x0.floops.length+(1:Nat))*(16:Nat)≤(140737488355328:Nat)∧x0.floops.length+(1:Nat)≤(9223372036854775807:Nat)) (sh:=eS) (l:=x0.floops) (kA (q:=(x0.fscope.length+(1:Nat))*(16:Nat)≤(140737488355328:Nat)∧x0.fscope.length+(1:Nat)≤(9223372036854775807:Nat)) (sh:=eS) (l:=x0.fscope) (kXj (alts:=Ys (x1,a4)) ab (Q0.mk x0.fnest (x0.floops++[v0.fName]) (x0.fscope++[v0.fName]) v1) (.here _ rfl (.cons (LeV.refl (AV.ptr (0:Nat) (0:Nat) (0:Nat))) (.cons (LeV.refl (AV.sl (20:Nat) (List.map Qh x1))) (.cons (LeV.refl (AV.ptr (4:Nat) (0:Nat) (0:Nat))) (.cons (LeV.refl (ii v3)) (.cons (LeV.refl (ii a4)) (.cons (LeV.refl (ii a7)) .nil)))))) (.cons (LeB.cells (0:Nat) (.cons (LeV.refl (AV.sl (8:Nat) (List.map Q5 x0.fnest.fBufs))) (.cons (LeV.refl (AV.sl (20:Nat) (List.map Qh x0.fnest.fBody))) (.cons (LeV.owl (by simp:x0.floops.length+(1:Nat)=List.length (x0.floops++[v0.fName]))) (.cons (LeV.owl (by simp:x0.fscope.length+(1:Nat)=List.length (x0.fscope++[v0.fName]))) (.cons (LeV.refl (AV.ow (3:Nat) (0:Nat) (1:Nat) v1.length)) .nil)))))) (.cons (LeB.ownEq (mA (sh:=eS) x0.floops v0.fName)) (.cons (LeB.ownEq (mA (sh:=eS) x0.fscope v0.fName)) (.cons (LeB.refl (Box.own (0:Nat) (1:Nat) (List.map eI v1))) (.cons (LeB.refl (Box.cells (0:Nat) [ii v0.fOp,AV.str v0.fName,ii v0.fMany,ii v0.fMark,ii v0.fFold,AV.sl (4:Nat) (List.map Q7 v0.fIdx),ii v0.fExpr.fOp,AV.str v0.fExpr.fName,ii v0.fExpr.fVal.fN,ii v0.fExpr.fVal.fD,ii v0.fExpr.fType.fKind,ii v0.fExpr.fType.fBits,ii v0.fExpr.fType.fFrac,ii v0.fExpr.fType.fRound,ii v0.fExpr.fType.fOver,ii v0.fExpr.fLin.fK,AV.sl (2:Nat) (List.map Qq v0.fExpr.fLin.fL),AV.sl (4:Nat) (List.map Q7 v0.fExpr.fIdx),AV.sl (13:Nat) (List.map Qr v0.fExpr.fArgs),AV.sl (20:Nat) (List.map Qh v0.fBody)])) .nil)))))))))
 (kXj (alts:=Ys (x1,a4)) ab (Q0.mk x0.fnest x0.floops x0.fscope v1) (.here _ rfl (.refl _) (.refl _)))))
 (fun v4 v6=>(kH (sh:=QQ) (bt:=QO) (Q59 v6 v4.fst.fBody) fun v7=>(kIf (c:=v7.fst !=(0:Int)) (kX (alts:=Z9 x1 a4) (.inr (v7.snd,v7.fst)) (.next (.here _ rfl (.refl _) (.refl _))))
 (kG (p:=(0:Int)=(0:Int)∧(0:Int)≤v4.snd.fst∧v4.snd.fst≤(↑v7.snd.fscope.length:Int)) (kOc (sh:=eS) (List.take v4.snd.fst.toNat v7.snd.fscope) (mT (sh:=eS) v7.snd.fscope v4.snd.fst.toNat) fun v8=>(kG (p:=(0:Int)=(0:Int)∧(0:Int)≤wr ((↑v7.snd.fpath.length:Int) - (1:Int))∧wr ((↑v7.snd.fpath.length:Int) - (1:Int))≤(↑v7.snd.fpath.length:Int)) (kN (↑v7.snd.fpath.length:Int) rfl fun v9=>(kOc (sh:=eI) (List.take ((wr ((↑v7.snd.fpath.length:Int) - (1:Int))).toNat) v7.snd.fpath) (mT (sh:=eI) v7.snd.fpath ((wr ((↑v7.snd.fpath.length:Int) - (1:Int))).toNat)) fun ad=>(kM0 (alts:=Z9 x1 a4) (Q5a (Q0.mk v7.snd.fnest v7.snd.floops v8 ad) x1 a4 (wr (v4.snd.snd+(1:Int)))))))))))))))))))))))
 (kX (alts:=Z9 x1 a4) (.inl x0) (.here _ rfl (.refl _) (.refl _)))) h))
theorem N8(x0:Q0)(x1:List Qe)(r:(Int×Q0))(h:QP x0 x1=some r):PH 47 [.ptr 0 0 0,X8 x1] [.cells 0 [.sl 8 (List.map Q5 x0.fnest.fBufs),.sl 20 (List.map Qh x0.fnest.fBody),.ow 1 0 1 (List.length x0.floops),.ow 2 0 1 (List.length x0.fscope),.ow 3 0 1 (List.length x0.fpath)],.own 0 1 (List.map eS x0.floops),.own 0 1 (List.map eS x0.fscope),.own 0 1 (List.map eI x0.fpath)] (QQ r) (QO r):=(WM).1 x0 x1 r h
def YZ(s:Qd)(u:Unit)(o:Bool):List Alt:=jb o (fun b=>[.ptr 0 0 0,.bool b]) [.cells 0 (Qp s).cells]
def UD(x0:Qd):Option (List Int×Int):=
 Yq x0.fBody (40:Int)>>=fun v0=>if v0 then
 some ()>>=fun v1=>
 (Xb x0.fBody (2000:Int)>>=fun v3=>
 if(2000:Int)<v3 then
 some true
 else
 some (List.length x0.fBufs:Int)>>=fun v4=>
 if(128:Int)<v4 then
 some true
 else
 some false)>>=fun v2=>if v2 then
 some ([],(2:Int))
 else
 Vy x0.fBufs>>=fun v7=>
 if v7 !=(0:Int) then
 some ([],v7)
 else
 QP (Q0.mk x0 [] [] []) x0.fBody>>=fun v8=>
 if v8.fst !=(0:Int) then
 some (v8.snd.fpath,v8.fst)
 else
 some ([],(0:Int))
 else
 some ([],(13:Int))
theorem H8(x0:Qd)(r:(List Int×Int))(h:UD x0=some r):PU 19 [Qp x0] (VY r):=
 Pu2 (hs:=[(9,.cb),(13,.c eI),(14,.split),(18,.n eI 18 none),(19,.split),(23,.c eI),(25,.split),(33,.h [kk 0,{slot:=0,path:=[2],own:=1},{slot:=0,path:=[3],own:=1},{slot:=0,path:=[4],own:=1}] QQ QO),(35,.split),(5000003,.l [] [] [] [1,20] [kk 1] (YZ x0))]) ((kCb (EL x0.fBody (40:Int)) (kJb (id:=5000003) () (fun v1 a4 v2=>(kC (sh:=eI) (I7 x0.fBody (2000:Int)) fun v3=>(kIfD (p:=(2000:Int)<v3) (kXj (alts:=YZ x0) a4 true (.here () rfl (.refl _) (.refl _)))
 (kN _ (mLen (sh:=Q5) x0.fBufs) fun v4=>(kIfD (p:=(128:Int)<v4) (kXj (alts:=YZ x0) a4 true (.here () rfl (.refl _) (.refl _)))
 (kXj (alts:=YZ x0) a4 false (.next (.here () rfl (.refl _) (.refl _)))))))))
 (fun v1=>(kE (enc:=VY) ([],(2:Int)) (LeT.tup (.cons (LeT.nil 1) (.cons (LeT.refl (ii (2:Int))) .nil)))))
 (fun v1=>(kC (sh:=eI) (L3 x0.fBufs) fun v7=>(kIf (c:=v7 !=(0:Int)) (kE (enc:=VY) ([],v7) (LeT.tup (.cons (LeT.nil 1) (.cons (LeT.refl (ii v7)) .nil))))
 (kH (sh:=QQ) (bt:=QO) (N8 (Q0.mk x0 [] [] []) x0.fBody) fun v8=>(kIf (c:=v8.fst !=(0:Int)) (kT (nM (sh:=eI) v8.snd.fpath) (kEr (enc:=VY) (v8.snd.fpath,v8.fst)))
 (kE (enc:=VY) ([],(0:Int)) (LeT.tup (.cons (LeT.nil 1) (.cons (LeT.refl (ii (0:Int))) .nil))))))))))
 (kE (enc:=VY) ([],(13:Int)) (LeT.tup (.cons (LeT.nil 1) (.cons (LeT.refl (ii (13:Int))) .nil))))) h)
end Go.Proofs.YtolcgikajjkjgaaGreatDoor
end
section
namespace Go.Proofs.YtolcgikajjkjgaaGreatDoor
open Go HY
set_option maxRecDepth 1000000
set_option linter.unusedVariables false
noncomputable def Cq(x0:Int)(x1:Int):Option (Int×Int):=
 some (IntKind.u64.wrap (↑(BitVec.ofInt (64:Nat) x0&&&BitVec.ofInt (64:Nat) (4294967295:Int)).toNat:Int):Int)>>=fun v0=>
 if(0:Int)≤(32:Int) then
 some (x0.fdiv ((2:Int)^ (32:Nat)):Int)>>=fun v1=>
 some (IntKind.u64.wrap (↑(BitVec.ofInt (64:Nat) x1&&&BitVec.ofInt (64:Nat) (4294967295:Int)).toNat:Int):Int)>>=fun v2=>
 if(0:Int)≤(32:Int) then
 some (x1.fdiv ((2:Int)^ (32:Nat)):Int)>>=fun v3=>
 if(0:Int)≤(32:Int) then
 some (IntKind.u64.wrap (IntKind.u64.wrap (v1*v2)+(IntKind.u64.wrap (v0*v2)).fdiv ((2:Int)^ (32:Nat))):Int)>>=fun v4=>
 some (IntKind.u64.wrap (↑(BitVec.ofInt (64:Nat) v4&&&BitVec.ofInt (64:Nat) (4294967295:Int)).toNat:Int):Int)>>=fun v5=>
 if(0:Int)≤(32:Int) then
 some (IntKind.u64.wrap (v5+IntKind.u64.wrap (v0*v3)):Int)>>=fun v6=>
 if(0:Int)≤(32:Int) then
 some ((IntKind.u64.wrap (IntKind.u64.wrap (IntKind.u64.wrap (v1*v3)+v4.fdiv ((2:Int)^ (32:Nat)))+v6.fdiv ((2:Int)^ (32:Nat)))),(IntKind.u64.wrap (x0*x1)))
 else none
 else none
 else none
 else none
 else none
theorem EM(x0:Int)(x1:Int)(r:(Int×Int))(h:Cq x0 x1=some r):PU 84 [eU64 x0,eU64 x1] (GU r):=
 Pu1 (hs:=[(6,.n eU64 6 none),(17,.s),(7,.n eU64 7 none),(8,.n eU64 8 none),(21,.s),(9,.n eU64 9 none),(29,.s),(11,.n eU64 11 none),(12,.n eU64 12 none),(34,.s),(12,.n eU64 12 none),(46,.s)]) (by kernel_rfl) ((kN (IntKind.u64.wrap (↑(BitVec.ofInt (64:Nat) x0&&&BitVec.ofInt (64:Nat) (4294967295:Int)).toNat:Int)) rfl fun v0=>(kG (p:=(0:Int)≤(32:Int)) (kN (x0.fdiv ((2:Int)^ (32:Nat))) rfl fun v1=>(kN (IntKind.u64.wrap (↑(BitVec.ofInt (64:Nat) x1&&&BitVec.ofInt (64:Nat) (4294967295:Int)).toNat:Int)) rfl fun v2=>(kG (p:=(0:Int)≤(32:Int)) (kN (x1.fdiv ((2:Int)^ (32:Nat))) rfl fun v3=>(kG (p:=(0:Int)≤(32:Int)) (kN (IntKind.u64.wrap (IntKind.u64.wrap (v1*v2)+(IntKind.u64.wrap (v0*v2)).fdiv ((2:Int)^ (32:Nat)))) rfl fun v4=>(kN (IntKind.u64.wrap (↑(BitVec.ofInt (64:Nat) v4&&&BitVec.ofInt (64:Nat) (4294967295:Int)).toNat:Int)) rfl fun v5=>(kG (p:=(0:Int)≤(32:Int)) (kN (IntKind.u64.wrap (v5+IntKind.u64.wrap (v0*v3))) rfl fun v6=>(kG (p:=(0:Int)≤(32:Int)) (kEr (enc:=GU) ((IntKind.u64.wrap (IntKind.u64.wrap (IntKind.u64.wrap (v1*v3)+v4.fdiv ((2:Int)^ (32:Nat)))+v6.fdiv ((2:Int)^ (32:Nat)))),(IntKind.u64.wrap (x0*x1)))))))))))))))) h)
noncomputable def Wy(x0:Int)(x1:Int):Option (Int×Int):=
 Cq x0 x1>>=fun v0=>
 some (v0.fst,v0.snd)
theorem Td(x0:Int)(x1:Int)(r:(Int×Int))(h:Wy x0 x1=some r):PU 62 [eU64 x0,eU64 x1] (GU r):=
 Pu1 (hs:=[(15,.c Q00),(25,.c GU)]) (by kernel_rfl) ((kC (sh:=GU) (EM x0 x1) fun v0=>(kEr (enc:=GU) (v0.fst,v0.snd))) h)
end Go.Proofs.YtolcgikajjkjgaaGreatDoor
end
section
namespace HY
open Go Go.RowKit
def cpV(P:Program)(op:Op)(ev:Operand→AV)(hp:Hp):Option (AV×Option (Nat×Box)):=match op with
 | .call c=>match c.callee with
  | .builtin .copy=>match c.argTypes.toList,c.args.toList.map ev with
   | [t,_],[x,y]=>N5 P t x y hp
   |_,_=>none
  |_=>none
 |_=>none
def xcp(P:Program)(gl:Nat→AV)(o:Oper)(st:St):Option St:=match o.guard with
 |none=>match QC o.dst st.n with
  |true=>match cpV P o.op (st.ev gl) (lkb st.hp) with
   |some r=>some (st.eff o.dst r)
   |none=>none
  |false=>none
 |some _=>none
def isMv(o:Oper):Bool:=match o.guard with
 |none=>match o.op with
  | .move _=>true
  |_=>false
 |some _=>false
def mvOk(all:List Oper)(i:Nat):Bool:=(List.range all.length).all fun j=>Nat.beq j i || match all[j]? with
 |some o=>isMv o || (match Nat.blt j i with
  |true=>((Xk all []).getD i 0).testBit j
  |false=>((Xk all []).getD j 0).testBit i)
 |none=>true
def stpC(P:Program)(gl:Nat→AV)(ch:Qo)(all:List Oper)(base cp:Nat)(i:Nat)(o:Oper)(st:St):Option St:=
 match Nat.beq i cp with
 |true=>xcp P gl o st
 |false=>Xl P gl (fun _=>ch) false (fun _=>none) all (base+i) o st
section
variable {P : Program} {m : Nat → Lc} {H : HV} {B : Nat → Prop} {H0 : HV} {gl : Nat → AV} {rest : List (AV × Value)} {st : St} {a : Act} {w : World} {ch : Qo} {rd : X4} {all : List Oper}
theorem cpV_ok(h:RelS m H B H0 gl rest st a.tmps w){o:Oper}(hd:QC o.dst st.n=true){r:AV×Option (Nat×Box)}(hk:cpV P o.op (st.ev gl) (lkb st.hp)=some r):OpOk P B H0 gl rest a w o.dst (st.eff o.dst r) (execOp a.eval o):=by
 unfold cpV at hk;unfold execOp;split at hk
 ·rename_i c ho;simp only[ho];split at hk
  ·rename_i a4;split at hk
   ·rename_i t t' x y a6 a3;obtain⟨a8,a5,a7⟩:=c;dsimp only at a4 a6 a3 hk;subst a4;obtain⟨l1⟩:=a7;obtain⟨l2⟩:=a5;dsimp only at a6 a3;subst a6
    match l2,a3 with
    | [o1,o2],a3=>
     cases a3;have:=O8 (t':=t') (ty:=o.type) h hd (h.ev o1) (h.ev o2) hk;simp only[resolve];simpa only[List.map_toArray,List.map_cons,List.map_nil,invoke,builtin,pure_bind] using this
   ·cases hk
  ·cases hk
 ·cases hk
theorem OC{op:Op}{ev:Operand→AV}{hp:Hp}{r:AV×Option (Nat×Box)}(h:cpV P op ev hp=some r):∀c,op≠ .defer c:=by
 intro c e;subst e;simp[cpV] at h
theorem A1{op:Op}{ev a3:Operand→AV}{hp:Hp}(h:∀x∈op.operands,ev x=a3 x):cpV P op ev hp=cpV P op a3 hp:=by
 unfold cpV;split
 ·rename_i c;have:c.args.toList.map ev=c.args.toList.map a3:=List.map_congr_left fun x hx=>h x (by simp only[Op.operands,Call.operands,Array.mem_append];exact .inr (by simpa using hx))
  rw[this]
 ·rfl
theorem cpV_box{op:Op}{ev:Operand→AV}{hp:Hp}{v:AV}{id:Nat}{b:Box}(h:cpV P op ev hp=some (v,some (id,b))):∃b0,hp id=some b0:=by
 unfold cpV at h;split at h<;>first | cases h | skip
 split at h<;>first | cases h | skip
 split at h<;>first | cases h | skip
 unfold N5 at h;split at h<;>first | cases h | skip
 split at h<;>first | cases h | skip
 split at h<;>first | cases h | skip
 split at h<;>first | cases h | skip
 rename_i a3;split at h<;>first | cases h | skip
 split at h;·cases h
 ·cases h;exact⟨_,a3⟩
theorem Ey{o:Oper}{s:St}(h:xcp P gl o st=some s):o.guard=none∧QC o.dst st.n=true∧∃r,cpV P o.op (st.ev gl) (lkb st.hp)=some r∧s=st.eff o.dst r:=by
 unfold xcp at h;split at h
 ·rename_i hg;split at h
  ·rename_i hd;split at h
   ·rename_i r hr;cases h;exact⟨hg,hd,r,hr,rfl⟩
   ·cases h
  ·cases h
 ·cases h
theorem S3{o:Oper}{r:AV×Option (Nat×Box)}(hg:o.guard=none)(hd:QC o.dst st.n=true)(h:cpV P o.op (st.ev gl) (lkb st.hp)=some r):xcp P gl o st=some (st.eff o.dst r):=by
 unfold xcp;simp only[hg,hd,h]
theorem A6{o:Oper}(h:isMv o=true):o.guard=none∧hk o.op=0∧∀ {md F} {al:List Oper} {bid:Nat} {gv:Option AV} {ev:Operand→AV} {hp:Hp} {r:AV×Option (Nat×Box)},md=false→VB P (fun _=>ch) md F al bid o gv ev hp=some r→r.2=none:=by
 unfold isMv at h;split at h
 ·rename_i hg;split at h
  ·rename_i x ho;refine⟨hg,by rw[ho];rfl,fun {md F al bid gv ev hp r} hm hx=> ?_⟩
   subst hm;unfold VB xoF xo at hx;simp only[hg,ho,YV,Bool.false_and,Bool.false_eq_true,if_false] at hx;split at hx
   ·simp only[xop,xop0] at hx;revert hx;simp[xv]
    try (intro hx;rw[← hx])
   ·cases hx
  ·cases h
 ·cases h
theorem P0{d1 d2:Option Nat}{v:AV}{r:AV×Option (Nat×Box)}(hd:∀k,d1=some k→d2≠some k):StEq ((st.eff d2 r).eff d1 (v,none)) ((st.eff d1 (v,none)).eff d2 r):=by
 refine⟨by simp only[Gq],by simp only[G5],fun k=> ?_,?_⟩
 ·rw[YP,YP,YP,YP];by_cases k1:d1=some k<;>by_cases k2:d2=some k<;>simp only[k1,k2,if_true,if_false]
  ·exact absurd k2 (hd k k1)
  all_goals rfl
 ·simp only[KH]
theorem A9{i j:Nat}{oj:Oper}(h:mvOk all i=true)(hj:all[j]? =some oj)(a4:j≠i):isMv oj=true∨(j<i∧((Xk all []).getD i 0).testBit j=true)∨(i<j∧((Xk all []).getD j 0).testBit i=true):=by
 have:=List.all_eq_true.1 h j (List.mem_range.2 (List.getElem?_eq_some_iff.1 hj).1);rw[Hu a4,hj] at this;simp only[Bool.false_or,Bool.or_eq_true] at this;rcases this with h | h
 ·exact .inl h
 ·right;split at h;·rename_i a3;exact .inl ⟨Nat.le_of_ble_eq_true a3,h⟩
  ·rename_i a3;refine .inr ⟨?_,h⟩;have:¬j<i:=fun hh=>by
    have:Nat.blt j i=true:=Nat.ble_eq_true_of_le hh;rw[a3] at this;cases this
   omega
theorem stpC_ok(ao:ch.Ok P gl)(b3:G3 all=true)(aw:mdR all=false){base cp:Nat}(ae:mvOk all cp=true):Me P B H0 gl rest all (stpC P gl ch all base cp) where
 sound:=fun {i o st s a w m H} h hk ro n next Q hn=>by
  unfold stpC at hk;split at hk
  ·obtain⟨hg,hd,r,hr,rfl⟩:=Ey hk;rw[if_pos (by simp[Region.wanted,hg])]
   exact((cpV_ok h hd hr).step (ro:=ro) (n:=n) (OC hr)) next Q hn
  ·exact Lh (Wj ao) h hk ro n next Q hn
 eq:=fun {i o x y s} h hk=>by
  unfold stpC at hk ⊢;split at hk
  ·obtain⟨hg,hd,r,hr,rfl⟩:=Ey hk;exact⟨_,S3 hg (by rw[← h.n];exact hd) (by rw[← h.ev,← h.hp];exact hr),h.eff _ _⟩
  ·exact h.stepO hk
 swap:=fun {j i oj oi st s1 s2 a w m H} hji hoj hoi hbit h h1 h2=>by
  have a6:WT (mdR all) all oj oi=false:=by
   cases a6:WT (mdR all) all oj oi with
   |false=>rfl
   |true=>have:=(Je b3 i oi hoi).pair j oj hji hoj a6;rw[hbit] at this;cases this
  rw[aw] at a6;simp only[WT,Bool.or_eq_false_iff,Bool.not_false,Bool.true_and] at a6;obtain⟨c1,c2,c3⟩:=WU a6.1;unfold stpC at h1 h2 ⊢;cases hj:Nat.beq j cp with
  |true=>
   obtain rfl:=Nat.eq_of_beq_eq_true hj;have hi:Nat.beq i j=false:=Hu (by omega)
   simp only[hj,hi] at h1 h2 ⊢;have ax:isMv oi=true:=by
    rcases A9 ae hoi (by omega) with h | h | h
    ·exact h
    ·omega
    ·rw[hbit] at h;cases h.2
   obtain⟨bb,ar,b4⟩:=A6 (P:=P) (ch:=ch) ax;obtain⟨hg,hd,r,hr,rfl⟩:=Ey h1;rw[Xx] at h2;split at h2
   ·rename_i k1;simp only[Bool.and_eq_true,Option.isNone_iff_eq_none] at k1;obtain⟨⟨ap,a5⟩,az⟩:=k1;split at h2
    ·rename_i ri af;cases h2;have hn:=b4 rfl af;obtain⟨v,b⟩:=ri;cases hn;obtain⟨f1,f2⟩:=Uj (st:=st) (gl:=gl) (all:=all) (o:=oi) r c1;obtain⟨g1,g2⟩:=Uj (st:=st) (gl:=gl) (all:=all) (o:=oj) (v,none) c3;have aa:VB P (fun _=>ch) false (fun _=>none) all (base+i) oi (gval all oi st) (st.ev gl) (lkb st.hp)=some (v,none):=by
      rw[← af];exact(Df f2 f1 (Mx ar)).symm
     refine⟨st.eff oi.dst (v,none),(st.eff oi.dst (v,none)).eff oj.dst r,?_,?_,(P0 fun k h1 h2=>Gh c2 (by simp[h1]) h2).symm⟩
     ·rw[Xx,if_pos,aa];simp only[Bool.and_eq_true,Option.isNone_iff_eq_none];refine⟨⟨by simpa only[Gq] using ap,?_⟩,by simpa only[G5] using az⟩
      rw[KH] at a5;split at a5
      ·rename_i id b hb;by_cases e:base+i=id;·subst e;rw[Qj] at a5;cases a5
       ·rw[Qn _ _ e] at a5;exact a5
      ·exact a5
     ·refine S3 hg (by rw[Gq];exact hd) ?_
      rw[A1 g1,KH];exact hr
    ·cases h2
   ·cases h2
  |false=>
   simp only[hj] at h1 ⊢;cases hi:Nat.beq i cp with
   |true=>
    obtain rfl:=Nat.eq_of_beq_eq_true hi;simp only[hi] at h2 ⊢;have ay:isMv oj=true:=by
     rcases A9 ae hoj (by omega) with h | h | h
     ·exact h
     ·rw[hbit] at h;cases h.2
     ·omega
    obtain⟨bc,au,b5⟩:=A6 (P:=P) (ch:=ch) ay;obtain⟨hg,hd,r,hr,rfl⟩:=Ey h2;rw[Xx] at h1;split at h1
    ·rename_i k1;simp only[Bool.and_eq_true,Option.isNone_iff_eq_none] at k1;obtain⟨⟨aq,a9⟩,b1⟩:=k1;split at h1
     ·rename_i rj ag;cases h1;have hn:=b5 rfl ag;obtain⟨v,b⟩:=rj;cases hn;rw[Gq] at hd;obtain⟨g1,g2⟩:=Uj (st:=st) (gl:=gl) (all:=all) (o:=oi) (v,none) c1;rw[A1 g1,KH] at hr;obtain⟨f1,f2⟩:=Uj (st:=st) (gl:=gl) (all:=all) (o:=oj) r c3;refine⟨st.eff oi.dst r,(st.eff oi.dst r).eff oj.dst (v,none),S3 hg hd hr,?_,P0 fun k h1 h2=>Gh c2 (by simp[h2]) h1⟩
      rw[Xx,if_pos];·rw[Df f2 f1 (Mx (hp':=lkb st.hp) au),ag]
      ·simp only[Bool.and_eq_true,Option.isNone_iff_eq_none,Gq,G5];refine⟨⟨aq,?_⟩,b1⟩;rw[KH];split
       ·rename_i id b hb;obtain⟨v2,b2⟩:=r;dsimp only at hb;subst hb;obtain⟨b0,h0⟩:=cpV_box hr;rw[Qn];·exact a9
        ·exact fun e=>by
          have h0:lkb st.hp id=some b0:=h0;rw[← e,a9] at h0;cases h0
       ·exact a9
     ·cases h1
    ·cases h1
   |false=>
    simp only[hi] at h2 ⊢;exact swap h (by omega) ⟨a6.1,.inl a6.2⟩ h1 h2
def Cx(P:Program)(gl:Nat→AV)(c:Code)(st:St)(ex:Exit)(st':St):Prop:=∀(ro:Option Nat) (n:Nat) (B:Nat→Prop) (H0:HV) (m:Nat→Lc) (H:HV) (a:Act) (w:World),RelS m H B H0 gl [] st a.tmps w→c.wpIn (FW ro) n P (fun e a' w'=>e=ex∧∃m' H',a'.defers=a.defers∧Qa B w w'∧RelS m' H' B H0 gl [] st' a'.tmps w') a w
theorem Vx.dest{st':St}{a':Act}{w':World}(h:Vx gl B H0 rest a w st' [] a' w'):∃m' H',a'.defers=a.defers∧Qa B w w'∧RelS m' H' B H0 gl rest st' a'.tmps w':=by
 obtain⟨m',H',D,hD,hd,_,hb,hr⟩:=h;obtain rfl:D=[]:=by simpa using hD
 exact⟨m',H',by simpa[Mj] using hd,hb,hr⟩
theorem Cx.x(a4:ch.Ok P gl)(a6:rd.Ok P gl)(a3:P.follows .mixedOrders=true){k:Nat}{c:Code}{st:St}{ex:Exit}{st':St}(a5:QJ c=true)(h:V5 P gl ch rd false k c st=some (ex,st',[])):Cx P gl c st ex st':=
 fun ro n B H0 m H a w hr=>wpIn_mono (Wh a4 a6 a3 false ro (fun e=>by cases e) n k c st ex st' [] a5 h B H0 [] m H a w hr) fun _ _ _ hq=>⟨hq.1,hq.2.dest⟩
theorem Cx.wlk{wf:WF}{hs:Z7}(h0:ch.Ok P gl)(ab:WF.Ok P gl wf)(a5:P.follows .mixedOrders=true){k n:Nat}{c:Code}{st:St}{ex:Exit}{ks:List Nat}{kb:List KB}{vs:List AV}{bs:List Box}{φ:Prop}(a7:QJ c=true)(hc:Qv c=false)(e:φ=Kp P gl ch wf hs (some []) k c st (fun e s=>e=ex∧s.n=n∧JV [] ks kb s (fun a6 a4=>a6=vs∧a4=bs)))(h:φ):Cx P gl c st ex (Qz n ks vs bs):=
 fun ro d B H0 m H a w hr=>wpIn_mono (RU h0 ab a5 (some []) k k (Nat.le_refl _) c st _ a7 (e▸h) ro d (fun e=>by rw[hc] at e;cases e) B H0 [] m H a w (fun ps e=>by cases e;rfl) hr) fun _ _ _ hq=>by
  obtain⟨s,m',H',B',H0',D,⟨rfl,rfl,hw⟩,hf,a8⟩:=hq;have:=hf.non hc;subst this;have a9:=a8.down hf.sub (fun b o hb=>hf.old b o hb) (hr.heap.gv.to hf.bel fun _ _ hb=>hb)
  obtain⟨a6,a4,m2,⟨rfl,rfl⟩,aa⟩:=U0 a9 rfl hw;exact⟨rfl,m2,H',by simpa[LL] using hf.dfr,hf.bel,aa⟩
theorem Cx.weak{c:Code}{st s:St}{ex:Exit}{ks:List Nat}{kb:List KB}{vs:List AV}{bs:List Box}(h1:Cx P gl c st ex s)(h2:JV [] ks kb s (fun a4 a3=>a4=vs∧a3=bs)):Cx P gl c st ex (Qz s.n ks vs bs):=fun ro n B H0 m H a w hr=>by
 refine wpIn_mono (h1 ro n B H0 m H a w hr) fun e a' w' hq=> ?_
 obtain⟨rfl,m',H',hd,hb,a5⟩:=hq;obtain⟨a4,a3,m2,⟨rfl,rfl⟩,a6⟩:=U0 a5 rfl h2;exact⟨rfl,m2,H',hd,hb,a6⟩
theorem Cx.seq{c d:Code}{st s s':St}{ex:Exit}(h1:Cx P gl c st .normal s)(h2:Cx P gl d s ex s'):Cx P gl (.seq c d) st ex s':=fun ro n B H0 m H a w hr=>by
 refine wpIn_seq (wpIn_mono (h1 ro n B H0 m H a w hr) fun e a' w' hq=> ?_)
 obtain⟨rfl,m',H',hd,hb,a6⟩:=hq;refine wpIn_mono (h2 ro n B H0 m' H' a' w' a6) fun e a2 w2 hq=> ?_
 obtain⟨rfl,m2,H2,a4,a3,a7⟩:=hq;exact⟨rfl,m2,H2,a4.trans hd,hb.trans a3,a7⟩
theorem Cx.seqX{c d:Code}{st s':St}{ex:Exit}(h1:Cx P gl c st ex s')(hx:ex≠ .normal):Cx P gl (.seq c d) st ex s':=fun ro n B H0 m H a w hr=>by
 refine wpIn_seq (wpIn_mono (h1 ro n B H0 m H a w hr) fun e a' w' hq=> ?_)
 obtain⟨rfl,hq⟩:=hq;cases e with
 |normal=>exact absurd rfl hx
 |_=>exact⟨rfl,hq⟩
theorem Cx.cond{c:Operand}{x y:Code}{st s':St}{ex:Exit}{b:Bool}(hb:st.ev gl c= .bool b)(h:Cx P gl (match b with | true=>x | false=>y) st ex s'):Cx P gl (.cond c x y) st ex s':=fun ro n B H0 m H a w hr=>by
 have hv:=hr.ev c;rw[hb] at hv;cases b with
 |true=>exact wpIn_cond hv.bool_inv (h ro n B H0 m H a w hr)
 |false=>exact wpIn_cond hv.bool_inv (h ro n B H0 m H a w hr)
theorem Cx.block{c:Code}{id:Nat}{st s':St}(h1:Cx P gl c st (.exit id) s'):Cx P gl (.block id c) st .normal s':=fun ro n B H0 m H a w hr=>by
 refine wpIn_block (wpIn_mono (h1 ro n B H0 m H a w hr) fun e a' w' hq=> ?_)
 obtain⟨rfl,hq⟩:=hq;simp only[Exit.inBlock,if_true];exact⟨trivial,hq⟩
theorem Cx.blockN{c:Code}{id:Nat}{st s':St}(h1:Cx P gl c st .normal s'):Cx P gl (.block id c) st .normal s':=fun ro n B H0 m H a w hr=>by
 refine wpIn_block (wpIn_mono (h1 ro n B H0 m H a w hr) fun e a' w' hq=> ?_)
 obtain⟨rfl,hq⟩:=hq;exact⟨rfl,hq⟩
theorem Cx.loop{c:Code}{ex:Exit}{sF:St}(ab:ex≠ .normal)(I:Nat→St→Prop)(a6:∀j st,I j st→Cx P gl c st ex sF∨∃j' st',j'<j∧I j' st'∧Cx P gl c st .normal st'){j:Nat}{st:St}(h:I j st):Cx P gl (.loop c) st ex sF:=fun ro n B H0 m H a w hr=>by
 refine Lt (j:=j) (fun j a' w'=>∃st1 m1 H1,I j st1∧a'.defers=a.defers∧Qa B w w'∧RelS m1 H1 B H0 gl [] st1 a'.tmps w') (fun j a1 w1 hI=> ?_) ⟨st,m,H,h,rfl,Qa.refl _ _,hr⟩
 obtain⟨st1,m1,H1,hj,hd,hb,a7⟩:=hI;rcases a6 j st1 hj with h | ⟨j',st',ac,aa,h⟩
 ·refine wpIn_mono (h ro n B H0 m1 H1 a1 w1 a7) fun e a2 w2 hq=> ?_
  obtain⟨rfl,m2,H2,a4,a3,a5⟩:=hq;have:e=e∧∃m' H',a2.defers=a.defers∧Qa B w w2∧RelS m' H' B H0 gl [] sF a2.tmps w2:=⟨rfl,m2,H2,a4.trans hd,hb.trans a3,a5⟩;cases e with
  |normal=>exact absurd rfl ab
  |_=>exact this
 ·refine wpIn_mono (h ro n B H0 m1 H1 a1 w1 a7) fun e a2 w2 hq=> ?_
  obtain⟨rfl,m2,H2,a4,a3,a5⟩:=hq;exact⟨j',ac,st',m2,H2,aa,a4.trans hd,hb.trans a3,a5⟩
theorem Cx.ops(a4:ch.Ok P gl)(a6:rd.Ok P gl){id:Nat}{ops:Array Oper}{st s:St}(h:xseq P gl ch rd ops.toList ops.toList st=some s):Cx P gl (.region id ops false) st .normal s:=fun ro n B H0 m H a w hr=>by
 refine wpIn_region ?_;have:=ST a4 a6 (all:=ops.toList) (ro:=ro) (n:=n) (d0:=a.defers) (w0:=w) (Q:=fun e a' w'=>e= .normal∧∃m' H',a'.defers=a.defers∧Qa B w w'∧RelS m' H' B H0 gl [] s a'.tmps w') (fun a' w' m' H' hd hb a5=>⟨rfl,m',H',hd,hb,a5⟩) [] ops.toList st a w m H rfl h rfl (Qa.refl _ _) hr
 simpa[List.range_eq_range'] using this
theorem Cx.reg(a7:ch.Ok P gl)(a3:P.follows .mixedOrders=true){id cp:Nat}{ops:Array Oper}(a4:G3 ops.toList=true)(a8:mdR ops.toList=false)(a9:mvOk ops.toList cp=true){st s:St}(a5:runG (stpC P gl ch ops.toList st.nx cp) ops.toList (List.range ops.toList.length) (st.bump ops.toList.length)=some s):
  Cx P gl (.region id ops true) st .normal s:=fun ro n B H0 m H a w hr=>by
 have:=HQ (id:=id) (ro:=ro) (n:=n) (Q:=fun e a' w'=>e= .normal∧∃m' H',a'.defers=a.defers∧Qa B w w'∧RelS m' H' B H0 gl [] s a'.tmps w') (stpC_ok (H0:=H0) (rest:=[]) a7 a4 a8 a9) a3 a4 hr a5 fun a' w' m' H' hd hb aa=>⟨rfl,m',H',hd,hb,aa⟩
 simpa using this
theorem Cx.fn{f:Nat}{fn:Func}{c:Code}{args:List AV}{ex:Exit}{s:St}{r:AV}(hf:P.funcs[f]? =some fn)(a5:(fn.name== "runtime.NumGoroutine")=false)(hb:fn.body=some c)(aj:args.length≤fn.ntmps)
  (hc:Cx P gl c ⟨fn.ntmps,Yc 0 args,.nil,0⟩ ex s) (aa:CJ ex=true) (hr:Ml P s fn.results.toList=some r):K3 P gl f args r s.hp s.nx:=by
 intro m H B H0 w vs hh hl a3;refine .inl ⟨DK hf a5 (by rw[hb];rfl),?_⟩
 have h0:RelS m H B H0 gl [] ⟨fn.ntmps,Yc 0 args,.nil,0⟩ (vs++Array.replicate (fn.ntmps - vs.size) Go.undef) w:=by
  refine⟨hh,by simp;omega,fun k=> ?_,fun p hp=>by cases hp⟩
  show RV H _ (lk .undef (Yc 0 args) k) _;rw[DN,if_pos (Nat.zero_le _),Nat.sub_zero];cases hx:args[k]? with
  |none=>exact .imm _ _ (.undef _)
  |some x=>
   have hk:k<vs.size:=by rw[← hl];exact(List.getElem?_eq_some_iff.1 hx).1
   have hv:(vs++Array.replicate (fn.ntmps - vs.size) Go.undef).getD k Go.undef=vs[k]:=by
    rw[Array.getD_eq_getD_getElem?,Array.getElem?_append_left hk,Array.getElem?_eq_getElem hk];rfl
   rw[hv];exact a3 k x _ hx (Array.getElem?_eq_getElem hk)
 have a4:=hc none 0 B H0 m H {tmps:=vs++Array.replicate (fn.ntmps - vs.size) Go.undef,defers:=[]} w h0;refine CallsIn.calls (F:=FW none) (callsIn_of_wp_marks hf hb trivial (wpIn_mono a4 fun e a' w' hq=> ?_)) (fun k d hd=>by simp[FW] at hd)
 obtain⟨rfl,m',H',hd,a8,a7⟩:=hq;have a6:LeavesInM (FW none) 0 P fn a'.tmps (fun e w'=>∃v m' H',e= .returned v∧Qa B w w'∧RelH m' H' B H0 gl (lkb s.hp) s.nx w'∧RV H' (Q4 (lkb s.hp) m') r v) a'.defers .returning w':=by
  rw[hd];obtain⟨v,hv,ab⟩:=Mu a7 hr;exact⟨v,hv,v,m',H',rfl,a8,a7.heap,ab⟩
 cases e with
 |normal=>exact a6
 |ret=>exact a6
 |_=>cases aa
end
def Mh(P:Program)(f:Nat):Code:=match P.funcs[f]? with
 |some fn=>match fn.body with
  |some c=>c
  |none=>.skip
 |none=>.skip
def cL:Code→Code
 | .seq a _=>a
 | .cond _ a _=>a
 | .block _ c=>c
 | .loop c=>c
 |c=>c
def cR:Code→Code
 | .seq _ b=>b
 | .cond _ _ b=>b
 |c=>c
end HY
namespace HY
open Go Go.RowKit
section
variable {P : Program} {gl : Nat → AV} {ch : Qo} {rd : X4}
theorem Us{all l:List Oper}{i:Nat}{st:St}{r:AV×Option (Nat×Box)}{s':St}
  (hg:(match l[i]? with | some o=>QC o.dst st.n&& (o.guard.isNone&& !YV o.op) | none=>false)=true)
  (hx:(match l[i]? with | some o=>xop P st.nx o.dst o.op (st.ev gl) (lkb st.hp) | none=>none)=some r)
  (hn:xseq P gl ch rd all (l.drop (i+1)) (match l[i]? with | some o=>(match r.2 with | some _=>(st.bump 1).eff o.dst r | none=>st.putO o.dst r.1) | none=>st)=some s'):xseq P gl ch rd all (l.drop i) st=some s':=by
 cases ho:l[i]? with
 |none=>rw[ho] at hg;cases hg
 |some o=>
  rw[ho] at hg hx hn;simp only[Bool.and_eq_true,Option.isNone_iff_eq_none,Bool.not_eq_true'] at hg hx hn;have hd:l.drop i=o::l.drop (i+1):=by
   obtain⟨h1,h2⟩:=List.getElem?_eq_some_iff.1 ho;rw[← h2];exact List.drop_eq_getElem_cons h1
  rw[hd];simp only[xseq,if_pos hg.1,hg.2.1,NH,hg.2.2,hx];obtain⟨v,b⟩:=r;cases b with
  |none=>exact hn
  |some b=>exact hn
theorem Q42{all l:List Oper}{i:Nat}{st:St}{r:AV×Option (Nat×Box)}{s':St}
  (hg:(match l[i]? with | some o=>QC o.dst st.n&& (o.guard.isNone&& !YV o.op) | none=>false)=true)
  (hx:(match l[i]? with | some o=>xop0 P st.nx o.dst o.op (st.ev gl) (lkb st.hp) | none=>none)=some r)
  (hn:xseq P gl ch rd all (l.drop (i+1)) (match l[i]? with | some o=>(match r.2 with | some _=>(st.bump 1).eff o.dst r | none=>st.putO o.dst r.1) | none=>st)=some s'):xseq P gl ch rd all (l.drop i) st=some s':=by
 refine Us hg ?_ hn;cases ho:l[i]? with
 |none=>rw[ho] at hx;cases hx
 |some o=>rw[ho] at hx;exact Zs hx
theorem IH{all l:List Oper}{i:Nat}{st:St}(h:(l.drop i).isEmpty=true):xseq P gl ch rd all (l.drop i) st=some st:=by
 rw[List.isEmpty_iff] at h;rw[h];rfl
theorem Q39{all:List Oper}{stp:Nat→Oper→St→Option St}{st:St}:runG stp all [] st=some st:=rfl
theorem xseq_cp{all l:List Oper}{i:Nat}{st:St}{r:AV×Option (Nat×Box)}{s':St}
  (hg:(match l[i]? with | some o=>QC o.dst st.n&& (o.guard.isNone&& (!YV o.op&& (xop P st.nx o.dst o.op (st.ev gl) (lkb st.hp)).isNone)) | none=>false)=true)
  (hx:(match l[i]? with | some o=>xopM P st.nx o.dst o.op (st.ev gl) (lkb st.hp) | none=>none)=some r)
  (hn:xseq P gl ch rd all (l.drop (i+1)) (match l[i]? with | some o=>(st.bump 1).eff o.dst r | none=>st)=some s'):xseq P gl ch rd all (l.drop i) st=some s':=by
 cases ho:l[i]? with
 |none=>rw[ho] at hg;cases hg
 |some o=>
  rw[ho] at hg hx hn;simp only[Bool.and_eq_true,Option.isNone_iff_eq_none,Bool.not_eq_true'] at hg hx hn;have hd:l.drop i=o::l.drop (i+1):=by
   obtain⟨h1,h2⟩:=List.getElem?_eq_some_iff.1 ho;rw[← h2];exact List.drop_eq_getElem_cons h1
  rw[hd];simp only[xseq,if_pos hg.1,hg.2.1,NH,hg.2.2.1,hg.2.2.2,hx];exact hn
theorem Wo{all:List Oper}{base cp i:Nat}{l:List Nat}{st s':St}{r:AV×Option (Nat×Box)}(hi:Nat.beq i cp=false)
  (hg:(match all[i]? with | some o=>(QC o.dst st.n&& (lkb st.hp (base+i)).isNone&&Nat.blt (base+i) st.nx)&& (o.guard.isNone&& !YV o.op) | none=>false)=true)
  (hx:(match all[i]? with | some o=>xop P (base+i) o.dst o.op (st.ev gl) (lkb st.hp) | none=>none)=some r)
  (hn:runG (stpC P gl ch all base cp) all l (match all[i]? with | some o=>st.eff o.dst r | none=>st)=some s'):runG (stpC P gl ch all base cp) all (i::l) st=some s':=by
 cases ho:all[i]? with
 |none=>rw[ho] at hg;cases hg
 |some o=>
  rw[ho] at hg hx hn;simp only[Bool.and_eq_true,Option.isNone_iff_eq_none,Bool.not_eq_true'] at hg hx hn;simp only[runG,ho,stpC,hi];rw[Xx,if_pos (by simp only[Bool.and_eq_true,Option.isNone_iff_eq_none];exact hg.1)]
  have:VB P (fun _=>ch) false (fun _=>none) all (base+i) o (gval all o st) (st.ev gl) (lkb st.hp)=some r:=by
   unfold VB xoF xo DL;simp only[hg.2.1,hg.2.2,Bool.false_and,Bool.false_eq_true,if_false];exact hx
  rw[this];exact hn
theorem PJ{all:List Oper}{base cp i:Nat}{l:List Nat}{st s':St}{r:AV×Option (Nat×Box)}(hi:Nat.beq i cp=false)
  (hg:(match all[i]? with | some o=>(QC o.dst st.n&& (lkb st.hp (base+i)).isNone&&Nat.blt (base+i) st.nx)&& (o.guard.isNone&& !YV o.op) | none=>false)=true)
  (hx:(match all[i]? with | some o=>xop0 P (base+i) o.dst o.op (st.ev gl) (lkb st.hp) | none=>none)=some r)
  (hn:runG (stpC P gl ch all base cp) all l (match all[i]? with | some o=>st.eff o.dst r | none=>st)=some s'):runG (stpC P gl ch all base cp) all (i::l) st=some s':=by
 refine Wo hi hg ?_ hn;cases ho:all[i]? with
 |none=>rw[ho] at hx;cases hx
 |some o=>rw[ho] at hx;exact Zs hx
theorem runC_cp{all:List Oper}{base cp:Nat}{l:List Nat}{st s':St}{r:AV×Option (Nat×Box)}
  (hg:(match all[cp]? with | some o=>QC o.dst st.n&&o.guard.isNone | none=>false)=true)
  (hx:(match all[cp]? with | some o=>cpV P o.op (st.ev gl) (lkb st.hp) | none=>none)=some r)
  (hn:runG (stpC P gl ch all base cp) all l (match all[cp]? with | some o=>st.eff o.dst r | none=>st)=some s'):runG (stpC P gl ch all base cp) all (cp::l) st=some s':=by
 cases ho:all[cp]? with
 |none=>rw[ho] at hg;cases hg
 |some o=>
  rw[ho] at hg hx hn;simp only[Bool.and_eq_true,Option.isNone_iff_eq_none] at hg hx hn;simp only[runG,ho,stpC,Nat.beq_refl];rw[S3 hg.2 hg.1 hx];exact hn
theorem Cx.weakC{c:Code}{st s:St}{ex:Exit}{ks:List Nat}{kb:List KB}{vs cs:List AV}{n:Nat}(h1:Cx P gl c st ex s)(hn:s.n=n)(h2:(vs=vs∧[Box.cells 0 (cs.map (ren (lkb s.hp) [0] 12))]=[.cells 0 cs])=JV [] ks kb s (fun a4 a3=>a4=vs∧a3=[.cells 0 cs]))
  (h3:∀f:AV→AV,(∀k z,f (.int k z)= .int k z)→cs.map f=cs):Cx P gl c st ex (Qz n ks vs [.cells 0 cs]):=
 hn▸Cx.weak h1 (cast h2 ⟨rfl,by rw[h3 _ (fun _ _=>rfl)]⟩)
theorem Cx.fn'{f N:Nat}{c:Code}{args:List AV}{ex:Exit}{s:St}{r:AV}{φ:Prop}(e:φ=match P.funcs[f]? with | some fn=>(fn.name== "runtime.NumGoroutine")=false∧fn.body=some c∧fn.ntmps=N∧Ml P s fn.results.toList=some r | none=>False)(h:φ)(a4:args.length≤N)
  (hc:Cx P gl c ⟨N,Yc 0 args,.nil,0⟩ ex s) (a3:CJ ex=true):K3 P gl f args r s.hp s.nx:=by
 rw[e] at h;cases hf:P.funcs[f]? with
 |none=>rw[hf] at h;exact h.elim
 |some fn=>
  rw[hf] at h;obtain⟨h1,h2,h3,h4⟩:=h;subst h3;exact Cx.fn hf h1 h2 a4 hc a3 h4
theorem Cx.conv{c:Code}{st s s':St}{ex:Exit}(h1:Cx P gl c st ex s)(h2:Conv gl s s'):Cx P gl c st ex s':=fun ro n B H0 m H a w hr=>by
 refine wpIn_mono (h1 ro n B H0 m H a w hr) fun e a' w' hq=> ?_
 obtain⟨rfl,m',H',hd,hb,a3⟩:=hq;obtain⟨m2,H2,a4⟩:=h2.2 _ _ _ _ _ _ _ a3;exact⟨rfl,m2,H2,hd,hb,a4⟩
theorem Cx.toH{f:Nat}{args:List AV}{r:AV}{bs:List Box}(h:K3 P gl f args r (hpOf 0 bs) bs.length):PuH P gl f args [] r bs:=⟨fun m H B H0 rest w vs hh hl a3 hp _=>by
 obtain rfl:rest=[]:=by simpa[DR] using hp
 exact(h m H B H0 w vs hh hl a3).mono fun e w' ⟨v,m',H',a,b,c,d⟩=>⟨v,m',H',a,b,c,d,fun p hp=>by cases hp⟩⟩
end
end HY
end
section
namespace Go.Proofs.YtolcgikajjkjgaaGreatDoor
open Go HY
set_option maxRecDepth 1000000
theorem mul_one(n:Nat)(h:n≤4096):Wy 1 (n:Int)=some (0,(n:Int)):=by
 have hw:∀k:Nat,k≤4096→IntKind.u64.wrap (k:Int)=(k:Int):=fun k hk=>by rw[IntKind.wrap_u64];omega
 have h0:IntKind.u64.wrap 0=0:=hw 0 (by omega)
 have hm:((BitVec.ofInt (64:Nat) (n:Int)&&&BitVec.ofInt (64:Nat) (4294967295:Int)).toNat:Int)=(n:Int):=by
  have h1:BitVec.ofInt 64 (n:Int)=BitVec.ofNat 64 n:=BitVec.ofInt_natCast 64 n;rw[h1,BitVec.toNat_and];have h2:(BitVec.ofInt 64 (4294967295:Int)).toNat=2^32 - 1:=by decide
  rw[h2,Nat.and_two_pow_sub_one_eq_mod,BitVec.toNat_ofNat];omega
 have e1:((BitVec.ofInt (64:Nat) (1:Int)&&&BitVec.ofInt (64:Nat) (4294967295:Int)).toNat:Int)=1:=by decide
 have e2:((BitVec.ofInt (64:Nat) (0:Int)&&&BitVec.ofInt (64:Nat) (4294967295:Int)).toNat:Int)=0:=by decide
 have d1:(1:Int).fdiv ((2:Int)^32)=0:=by decide
 have d0:(0:Int).fdiv ((2:Int)^32)=0:=by decide
 have dn:(n:Int).fdiv ((2:Int)^32)=0:=by
  rw[Int.fdiv_eq_ediv_of_nonneg _ (by decide)];omega
 have w1:IntKind.u64.wrap 1=1:=hw 1 (by omega)
 simp only[Wy,Cq,Option.bind_eq_bind,Option.bind_some,hm,e1,e2,w1,hw n h,d1,dn,Int.zero_mul,Int.one_mul,Int.mul_zero,Int.add_zero,Int.zero_add,h0,d0,show(0:Int)≤32 by decide,if_true]
noncomputable def rb:Nat→Code
 |0=>Mh Tryz.prog 32
 |k+1=>cR (rb k)
def S0(v:gVal)(n:Nat):St:=⟨48,Yc 0 [.sl 2 [Qk v],.int .i64 n],.nil,0⟩
def V2(v:gVal):List AV:=[.int .i64 v.fN,.int .i64 v.fD]
def Z:AV:=.int .i64 0
def RR(v:gVal)(k:Nat):List AV:=(List.replicate k (V2 v)).flatten
def cont(v:gVal)(k n:Nat):List AV:=RR v k++List.replicate ((n - k)*2) Z
theorem DI(v:gVal)(k:Nat):(RR v k).length=k*2:=by
 induction k with
 |zero=>rfl
 |succ k ih=>simp only[RR,List.replicate_succ,List.flatten_cons,List.length_append] at ih ⊢;rw[ih];simp[V2];omega
theorem Tl(v:gVal)(k m:Nat):RR v (k+m)=RR v k++RR v m:=by
 simp only[RR,← List.replicate_append_replicate,List.flatten_append]
theorem Q2d(v:gVal){k n:Nat}(h:k≤n):(cont v k n).length=n*2:=by
 simp only[cont,List.length_append,DI,List.length_replicate];omega
theorem Q15(v:gVal){k n m:Nat}(h1:m≤k)(h2:m≤n - k)(h3:k≤n):
  (cont v k n).take (k*2)++((((cont v k n).drop 0).take (k*2)).take (m*2)++(cont v k n).drop (k*2+m*2))=cont v (k+m) n:=by
 have ht:(cont v k n).take (k*2)=RR v k:=by
  unfold cont;rw[List.take_append_of_le_length (by rw[DI];exact Nat.le_refl _),List.take_of_length_le (by rw[DI];exact Nat.le_refl _)]
 have hm:(RR v k).take (m*2)=RR v m:=by
  obtain⟨d,rfl⟩:=Nat.le.dest h1;rw[Tl,List.take_append_of_le_length (by rw[DI];exact Nat.le_refl _),List.take_of_length_le (by rw[DI];exact Nat.le_refl _)]
 have hd:(cont v k n).drop (k*2+m*2)=List.replicate ((n - (k+m))*2) Z:=by
  unfold cont;rw[List.drop_append,DI,List.drop_of_length_le (by rw[DI];omega),List.nil_append,List.drop_replicate]
  congr 1;omega
 rw[List.drop_zero,ht,hm,hd];unfold cont;rw[Tl,List.append_assoc]
theorem SC:elG Tryz.prog 68=some (2,16,[Z,Z]):=by kernel_rfl
theorem zc(n:Nat):DU 2 n [Z,Z]=List.replicate (n*2) Z:=by
 unfold DU;refine List.ext_getElem (by simp) fun i h1 h2=> ?_
 simp only[List.getElem_map,List.getElem_range,List.getElem_replicate];have:i%2=0∨i%2=1:=by omega
 rcases this with h | h<;>rw[h]<;>rfl
theorem mk_ok(b n:Nat)(h:n≤4096):GX Tryz.prog b 68 (.int .i64 (n:Int)) (.int .i64 (n:Int))=some (.bs b 0 2 0 n,some (b,.cells 0 (List.replicate (n*2) Z))):=by
 unfold GX;rw[SC];simp only[Int.toNat_natCast,zc];rw[if_pos ⟨by omega,by omega,by omega,by omega⟩]
theorem copy1(v:gVal)(n:Nat)(h:1≤n)(b:Nat){hp:Hp}(hb:hp b=some (.cells 0 (List.replicate (n*2) Z))):N5 Tryz.prog 68 (.bs b 0 2 0 n) (.sl 2 [Qk v]) hp=some (.int .i64 1,some (b,.cells 0 (cont v 1 n))):=by
 unfold N5;rw[SC];simp only[xsrc,if_true,hb,List.length_replicate,Nat.beq_refl,Bool.true_and,Nat.zero_add,List.length_singleton];rw[Nat.ble_eq_true_of_le (Nat.le_refl _)];have hm:Nat.min 1 n=1:=Nat.min_eq_left h;simp only[hm];have:cont v 1 n=V2 v++List.replicate ((n - 1)*2) Z:=by simp[cont,RR]
 rw[this];simp only[List.take_zero,List.nil_append,List.drop_replicate];rw[show n*2 - 1*2=(n - 1)*2 by omega]
 rfl
theorem copy2(v:gVal){k n:Nat}(h1:1≤k)(h2:k<n)(b:Nat){hp:Hp}(hb:hp b=some (.cells 0 (cont v k n))):N5 Tryz.prog 68 (.bs b 0 2 (k*2) (n - k)) (.bs b 0 2 0 k) hp=some (.int .i64 (Nat.min k (n - k):Nat),some (b,.cells 0 (cont v (k+Nat.min k (n - k)) n))):=by
 have hl:=Q2d v (Nat.le_of_lt h2);have m1:Nat.min k (n - k)≤k:=Nat.min_le_left _ _;have m2:Nat.min k (n - k)≤n - k:=Nat.min_le_right _ _;have m3:Nat.min k (n - k)≠0:=by
  have:0<min k (n - k):=by omega
  exact Nat.ne_of_gt this
 unfold N5;rw[SC];simp only[xsrc,hb,hl,Nat.beq_refl,Bool.true_and,Nat.zero_add];rw[if_pos ⟨trivial,trivial,by omega⟩]
 simp only[];rw[Nat.ble_eq_true_of_le (by omega),Hu m3]
 simp only[];rw[Q15 v m1 m2 (Nat.le_of_lt h2)]
end Go.Proofs.YtolcgikajjkjgaaGreatDoor
end
section
namespace Go.Proofs.YtolcgikajjkjgaaGreatDoor
open Go HY
set_option maxRecDepth 1000000
def cId:Code→Nat
 | .region id _ _=>id
 | .block id _=>id
 |_=>0
def cArr:Code→Array Oper
 | .region _ ops _=>ops
 |_=> #[]
def rd0:X4:=fun _ _ _ _=>none
theorem NP:X4.Ok Tryz.prog gls rd0:=fun _ _ _ _ _ _ _ h=>by cases h
abbrev C(c:Code)(st:St)(ex:Exit)(st':St):Prop:=Cx Tryz.prog gls c st ex st'
section
variable (v : gVal) (n : Nat)
theorem MK(k:Nat)(f:AV→AV)(h:∀k z,f (.int k z)= .int k z):(cont v k n).map f=cont v k n:=by
 simp only[cont,RR,List.map_append,List.map_flatten,List.map_replicate,V2,Z,List.map_cons,List.map_nil,h]
theorem q0:C (cL (rb 0)) (S0 v n) .normal (Qz 48 [0,1] [.sl 2 [Qk v],.int .i64 n] []):=
 Cx.wlk (hs:=[]) (k:=100) (kb:=[]) YI Gc GV (by kernel_rfl) (by kernel_rfl) (φ:=Exit.normal= .normal∧48=48∧[AV.sl 2 [Qk v],.int .i64 n]=[AV.sl 2 [Qk v],.int .i64 n]∧([]:List Box)=[]) (by kernel_rfl) ⟨rfl,rfl,rfl,rfl⟩
theorem q1:C (cL (rb 1)) (Qz 48 [0,1] [.sl 2 [Qk v],.int .i64 n] []) .normal (Qz 48 [0,1] [.sl 2 [Qk v],.int .i64 n] []):=
 Cx.wlk (hs:=[(10,.split)]) (k:=100) (kb:=[]) YI Gc GV (by kernel_rfl) (by kernel_rfl) (φ:=(false=true→False)∧(false=false→Exit.normal= .normal∧48=48∧[AV.sl 2 [Qk v],.int .i64 n]=[AV.sl 2 [Qk v],.int .i64 n]∧([]:List Box)=[])) (by kernel_rfl) ⟨fun e=>(by cases e),fun _=>⟨rfl,rfl,rfl,rfl⟩⟩
theorem q2(h:n≤4096):C (cL (rb 2)) (Qz 48 [0,1] [.sl 2 [Qk v],.int .i64 n] []) .normal (Qz 48 [0,5,6] [.sl 2 [Qk v],.int .u64 0,.int .u64 n] []):=
 Cx.wlk (hs:=[(18,.c GU)]) (k:=100) (kb:=[]) YI Gc GV (by kernel_rfl) (by kernel_rfl) (φ:=∃x:Int×Int,Pu Tryz.prog gls 62 [.int .u64 (IntKind.u64.wrap ((1:Nat):Int)),.int .u64 (IntKind.u64.wrap (n:Int))] (.tup [.int .u64 x.1,.int .u64 x.2])∧Exit.normal= .normal∧48=48∧[AV.sl 2 [Qk v],.int .u64 x.1,.int .u64 x.2]=[AV.sl 2 [Qk v],.int .u64 0,.int .u64 n]∧([]:List Box)=[]) (by kernel_rfl)
  ⟨(0,n),by
   have h1:IntKind.u64.wrap ((1:Nat):Int)=1:=by rw[IntKind.wrap_u64];omega
   have h2:IntKind.u64.wrap (n:Int)=n:=by rw[IntKind.wrap_u64];omega
   rw[h1,h2];exact Td 1 n (0,n) (mul_one n h),rfl,rfl,rfl,rfl⟩
theorem q3(h:n≤4096):C (cL (rb 3)) (Qz 48 [0,5,6] [.sl 2 [Qk v],.int .u64 0,.int .u64 n] []) .normal (Qz 48 [0,6] [.sl 2 [Qk v],.int .u64 n] []):=
 Cx.wlk (hs:=[(22,.split),(25,.split)]) (k:=100) (kb:=[]) YI Gc GV (by kernel_rfl) (by kernel_rfl)
  (φ:=(false=true→False)∧(false=false→(decide ((9223372036854775807:Int)< (n:Int))=true→False)∧(decide ((9223372036854775807:Int)< (n:Int))=false→Exit.normal= .normal∧48=48∧[AV.sl 2 [Qk v],.int .u64 n]=[AV.sl 2 [Qk v],.int .u64 n]∧([]:List Box)=[]))) (by kernel_rfl)
  ⟨fun e=>(by cases e),fun _=>⟨fun e=>(by have:=of_decide_eq_true e;omega),fun _=>⟨rfl,rfl,rfl,rfl⟩⟩⟩
theorem q4(h:n≤4096):C (cL (rb 4)) (Qz 48 [0,6] [.sl 2 [Qk v],.int .u64 n] []) .normal (Qz 48 [0,7] [.sl 2 [Qk v],.bs 0 0 2 0 n] [.cells 0 (List.replicate (n*2) Z)]):=by
 have hw:IntKind.i64.wrap (n:Int)=n:=by rw[IntKind.wrap_i64];omega
 have hc:cL (rb 4)= .region (cId (cL (rb 4))) (cArr (cL (rb 4))) false:=by kernel_rfl
 rw[hc];have hs:=Us (P:=Tryz.prog) (gl:=gls) (ch:=ch0) (rd:=rd0) (all:=(cArr (cL (rb 4))).toList) (l:=(cArr (cL (rb 4))).toList) (st:=Qz 48 [0,6] [.sl 2 [Qk v],.int .u64 n] []) (i:=0) (r:=(.int .u64 n,none)) (by kernel_rfl) (by kernel_rfl) (Us (i:=1) (r:=(.int .i64 (IntKind.i64.wrap n),none)) (by kernel_rfl) (by kernel_rfl)
  (Q42 (i:=2) (r:=(.bs 0 0 2 0 n,some (0,.cells 0 (List.replicate (n*2) Z)))) (by kernel_rfl) (Eq.trans (b:=GX Tryz.prog 0 68 (.int .i64 (IntKind.i64.wrap n)) (.int .i64 (IntKind.i64.wrap n))) (by kernel_rfl) (by rw[hw];exact mk_ok 0 n h))
   (Us (i:=3) (r:=(.bs 0 0 2 0 n,none)) (by kernel_rfl) (by kernel_rfl) (IH (by kernel_rfl)))))
 exact Cx.weakC (ks:=[0,7]) (kb:=[{slot:=7}]) (vs:=[.sl 2 [Qk v],.bs 0 0 2 0 n]) (cs:=(List.replicate (n*2) Z)) (Cx.ops YI NP hs) (by kernel_rfl) (by kernel_rfl) (fun f hf=>by simp[Z,hf])
theorem q5(h:1≤n):C (cL (rb 5)) (Qz 48 [0,7] [.sl 2 [Qk v],.bs 0 0 2 0 n] [.cells 0 (List.replicate (n*2) Z)]) .normal (Qz 48 [7,8] [.bs 0 0 2 0 n,.int .i64 (1:Nat)] [.cells 0 (cont v 1 n)]):=by
 have hc:cL (rb 5)= .region (cId (cL (rb 5))) (cArr (cL (rb 5))) false:=by kernel_rfl
 rw[hc];have hs:=Us (P:=Tryz.prog) (gl:=gls) (ch:=ch0) (rd:=rd0) (all:=(cArr (cL (rb 5))).toList) (l:=(cArr (cL (rb 5))).toList) (st:=Qz 48 [0,7] [.sl 2 [Qk v],.bs 0 0 2 0 n] [.cells 0 (List.replicate (n*2) Z)]) (i:=0) (r:=(.bs 0 0 2 0 n,none)) (by kernel_rfl) (by kernel_rfl) (Us (i:=1) (r:=(.sl 2 [Qk v],none)) (by kernel_rfl) (by kernel_rfl)
  (xseq_cp (i:=2) (r:=(.int .i64 1,some (0,.cells 0 (cont v 1 n)))) (by kernel_rfl) (Eq.trans (b:=N5 Tryz.prog 68 (.bs 0 0 2 0 n) (.sl 2 [Qk v]) (lkb (hpOf 0 [.cells 0 (List.replicate (n*2) Z)]))) (by kernel_rfl) (copy1 v n h 0 rfl))
   (Us (i:=3) (r:=(.int .i64 1,none)) (by kernel_rfl) (by kernel_rfl) (IH (by kernel_rfl)))))
 exact Cx.weakC (ks:=[7,8]) (kb:=[{slot:=7}]) (vs:=[.bs 0 0 2 0 n,.int .i64 (1:Nat)]) (cs:=(cont v 1 n)) (Cx.ops YI NP hs) (by kernel_rfl) (by kernel_rfl) (MK v n _)
def SL(k:Nat):St:=Qz 48 [7,8] [.bs 0 0 2 0 n,.int .i64 k] [.cells 0 (cont v k n)]
noncomputable def Do:Code:=cL (cL (cL (rb 6)))
theorem q6(k:Nat):C (cL (cL Do)) (SL v n k) .normal (Qz 48 [7,8,37] [.bs 0 0 2 0 n,.int .i64 k,.bool (decide ((k:Int)< (n:Int)))] [.cells 0 (cont v k n)]):=by
 have hc:cL (cL Do)= .region (cId (cL (cL Do))) (cArr (cL (cL Do))) false:=by kernel_rfl
 rw[hc];have hs:=Us (P:=Tryz.prog) (gl:=gls) (ch:=ch0) (rd:=rd0) (all:=(cArr (cL (cL Do))).toList) (l:=(cArr (cL (cL Do))).toList) (st:=SL v n k) (i:=0) (r:=(.int .i64 k,none)) (by kernel_rfl) (by kernel_rfl) (Us (i:=1) (r:=(.bs 0 0 2 0 n,none)) (by kernel_rfl) (by kernel_rfl)
  (Us (i:=2) (r:=(.int .i64 n,none)) (by kernel_rfl) (by kernel_rfl) (Us (i:=3) (r:=(.bool (decide ((k:Int)< (n:Int))),none)) (by kernel_rfl) (by kernel_rfl) (IH (by kernel_rfl)))))
 exact Cx.weakC (ks:=[7,8,37]) (kb:=[{slot:=7}]) (vs:=[.bs 0 0 2 0 n,.int .i64 k,.bool (decide ((k:Int)< (n:Int)))]) (cs:=(cont v k n)) (Cx.ops YI NP hs) (by kernel_rfl) (by kernel_rfl) (MK v n _)
noncomputable def r9:Code:=cL (cR Do)
theorem q7(h:n≤4096)(k:Nat)(h1:1≤k)(h2:k<n):C r9 (SL v n k) .normal (SL v n (k+Nat.min k (n - k))):=by
 have hc:r9= .region (cId r9) (cArr r9) true:=by kernel_rfl
 have hl:(cArr r9).toList.length=10:=by kernel_rfl
 have m2:Nat.min k (n - k)≤n - k:=Nat.min_le_right _ _;have hw:IntKind.i64.wrap ((k:Int)+((Nat.min k (n - k):Nat):Int))=((k+Nat.min k (n - k):Nat):Int):=by
  generalize Nat.min k (n - k)=q at m2;rw[IntKind.wrap_i64];omega
 have a4:Kj Tryz.prog 68 (.bs 0 0 2 0 n) (some (.int .i64 (k:Int))) none none=some (.bs 0 0 2 (k*2) (n - k)):=by
  have he:elI Tryz.prog 68=some 2:=by kernel_rfl
  simp only[Kj,bndN,he];have:(0:Int)≤(k:Int):=by omega
  simp[this];omega
 have a5:Kj Tryz.prog 68 (.bs 0 0 2 0 n) none (some (.int .i64 (k:Int))) none=some (.bs 0 0 2 0 k):=by
  have he:elI Tryz.prog 68=some 2:=by kernel_rfl
  simp only[Kj,bndN,he];have:(0:Int)≤(k:Int):=by omega
  simp[this];omega
 have hs:=Wo (P:=Tryz.prog) (gl:=gls) (ch:=ch0) (all:=(cArr r9).toList) (base:=1) (cp:=7) (i:=0) (l:=[1,2,3,4,5,6,7,8,9]) (st:=(SL v n k).bump 10) (r:=(.int .i64 k,none)) (by kernel_rfl) (by kernel_rfl) (by kernel_rfl)
  (Wo (i:=1) (r:=(.bs 0 0 2 0 n,none)) (by kernel_rfl) (by kernel_rfl) (by kernel_rfl)
  (Wo (i:=2) (r:=(.int .i64 k,none)) (by kernel_rfl) (by kernel_rfl) (by kernel_rfl)
  (PJ (i:=3) (r:=(.bs 0 0 2 (k*2) (n - k),none)) (by kernel_rfl) (by kernel_rfl) (Eq.trans (b:=xv (Kj Tryz.prog 68 (.bs 0 0 2 0 n) (some (.int .i64 (k:Int))) none none)) (by kernel_rfl) (by rw[a4];rfl))
  (Wo (i:=4) (r:=(.bs 0 0 2 0 n,none)) (by kernel_rfl) (by kernel_rfl) (by kernel_rfl)
  (Wo (i:=5) (r:=(.int .i64 k,none)) (by kernel_rfl) (by kernel_rfl) (by kernel_rfl)
  (PJ (i:=6) (r:=(.bs 0 0 2 0 k,none)) (by kernel_rfl) (by kernel_rfl) (Eq.trans (b:=xv (Kj Tryz.prog 68 (.bs 0 0 2 0 n) none (some (.int .i64 (k:Int))) none)) (by kernel_rfl) (by rw[a5];rfl))
  (runC_cp (r:=(.int .i64 (Nat.min k (n - k):Nat),some (0,.cells 0 (cont v (k+Nat.min k (n - k)) n)))) (by kernel_rfl) (Eq.trans (b:=N5 Tryz.prog 68 (.bs 0 0 2 (k*2) (n - k)) (.bs 0 0 2 0 k) (lkb (hpOf 0 [.cells 0 (cont v k n)]))) (by kernel_rfl) (copy2 v h1 h2 0 rfl))
  (Wo (i:=8) (r:=(.int .i64 (IntKind.i64.wrap ((k:Int)+((Nat.min k (n - k):Nat):Int))),none)) (by kernel_rfl) (by kernel_rfl) (by kernel_rfl)
  (Wo (i:=9) (r:=(.int .i64 (IntKind.i64.wrap ((k:Int)+((Nat.min k (n - k):Nat):Int))),none)) (by kernel_rfl) (by kernel_rfl) (by kernel_rfl) Q39)))))))))
 have a3:C (.region (cId r9) (cArr r9) true) (SL v n k) .normal _:=Cx.reg (cp:=7) YI GV (by kernel_rfl) (by kernel_rfl) (by kernel_rfl) (by rw[hl];exact hs)
 rw[hc];have:=Cx.weakC (n:=48) (ks:=[7,8]) (kb:=[{slot:=7}]) (vs:=[.bs 0 0 2 0 n,.int .i64 (IntKind.i64.wrap ((k:Int)+((Nat.min k (n - k):Nat):Int)))]) (cs:=cont v (k+Nat.min k (n - k)) n) a3 (by kernel_rfl) (by kernel_rfl) (MK v n _)
 rw[hw] at this;exact this
def S37(k:Nat):St:=Qz 48 [7,8,37] [.bs 0 0 2 0 n,.int .i64 k,.bool (decide ((k:Int)< (n:Int)))] [.cells 0 (cont v k n)]
theorem q8(h0:1≤n)(h:n≤4096):C (.loop Do) (SL v n 1) (.exit 0) (S37 v n n):=by
 have hb:Do= .seq (.seq (cL (cL Do)) (.cond (.tmp 37) .skip (.exit 0))) (.block (cId (cR Do)) r9):=by kernel_rfl
 refine Cx.loop (by intro e;cases e) (fun j st=>∃k,1≤k∧k≤n∧j=n - k∧st=SL v n k) (fun j st ⟨k,k1,k2,hj,a5⟩=> ?_) (j:=n - 1) ⟨1,Nat.le_refl _,h0,rfl,rfl⟩
 subst a5;rw[hb];by_cases hk:k=n
 ·subst hk;have hd:decide ((k:Int)< (k:Int))=false:=by simp
  refine .inl (Cx.seqX (Cx.seq (q6 v k k) (Cx.cond (b:=false) (by rw[hd];kernel_rfl) (Cx.x (k:=1) YI NP GV rfl rfl))) (by intro e;cases e))
 ·have a4:k<n:=by omega
  have hd:decide ((k:Int)< (n:Int))=true:=by simp;omega
  have hm:0<Nat.min k (n - k):=by
   have:0<min k (n - k):=by omega
   exact this
  have a8:Nat.min k (n - k)≤n - k:=Nat.min_le_right _ _;refine .inr ⟨n - (k+Nat.min k (n - k)),SL v n (k+Nat.min k (n - k)),by omega,⟨_,by omega,by omega,rfl,rfl⟩,?_⟩
  refine Cx.seq (s:=SL v n k) ?_ (Cx.blockN (q7 v n h k k1 a4));have h1:C (.seq (cL (cL Do)) (.cond (.tmp 37) .skip (.exit 0))) (SL v n k) .normal (S37 v n k):=Cx.seq (q6 v n k) (Cx.cond (b:=true) (by rw[hd];kernel_rfl) (Cx.x (k:=1) YI NP GV rfl rfl))
  exact Cx.weakC (n:=48) (ks:=[7,8]) (kb:=[{slot:=7}]) (vs:=[.bs 0 0 2 0 n,.int .i64 k]) (cs:=cont v k n) h1 (by kernel_rfl) (by kernel_rfl) (MK v n _)
theorem q9:C (cL (rb 7)) (S37 v n n) .normal (Qz 48 [4] [.bs 0 0 2 0 n] [.cells 0 (cont v n n)]):=by
 have hc:cL (rb 7)= .region (cId (cL (rb 7))) (cArr (cL (rb 7))) false:=by kernel_rfl
 rw[hc];have hs:=Us (P:=Tryz.prog) (gl:=gls) (ch:=ch0) (rd:=rd0) (all:=(cArr (cL (rb 7))).toList) (l:=(cArr (cL (rb 7))).toList) (st:=S37 v n n) (i:=0) (r:=(.bs 0 0 2 0 n,none)) (by kernel_rfl) (by kernel_rfl) (Us (i:=1) (r:=(.bs 0 0 2 0 n,none)) (by kernel_rfl) (by kernel_rfl) (IH (by kernel_rfl)))
 exact Cx.weakC (ks:=[4]) (kb:=[{slot:=4}]) (vs:=[.bs 0 0 2 0 n]) (cs:=cont v n n) (Cx.ops YI NP hs) (by kernel_rfl) (by kernel_rfl) (MK v n _)
theorem rep_ok(h0:1≤n)(h:n≤4096):K3 Tryz.prog gls 32 [.sl 2 [Qk v],.int .i64 n] (.bs 0 0 2 0 n) (hpOf 0 [.cells 0 (RR v n)]) 1:=by
 have hc:cont v n n=RR v n:=by simp[cont]
 have hb:Mh Tryz.prog 32= .seq (cL (rb 0)) (.seq (cL (rb 1)) (.seq (cL (rb 2)) (.seq (cL (rb 3)) (.seq (cL (rb 4)) (.seq (cL (rb 5)) (.seq (.block 0 (.loop Do)) (.seq (cL (rb 7)) .ret))))))):=by kernel_rfl
 have a3:C (Mh Tryz.prog 32) ⟨48,Yc 0 [.sl 2 [Qk v],.int .i64 n],.nil,0⟩ .ret (Qz 48 [4] [.bs 0 0 2 0 n] [.cells 0 (cont v n n)]):=by
  rw[hb];exact Cx.seq (q0 v n) (Cx.seq (q1 v n) (Cx.seq (q2 v n h) (Cx.seq (q3 v n h) (Cx.seq (q4 v n h) (Cx.seq (q5 v n h0) (Cx.seq (Cx.block (q8 v n h0 h)) (Cx.seq (q9 v n) (Cx.x (k:=1) YI NP GV rfl rfl))))))))
 have:=Cx.fn' (φ:=false=false∧some (Mh Tryz.prog 32)=some (Mh Tryz.prog 32)∧48=48∧some (AV.bs 0 0 2 0 n)=some (AV.bs 0 0 2 0 n)) (f:=32) (N:=48) (r:=.bs 0 0 2 0 n) (by kernel_rfl) ⟨rfl,rfl,rfl,rfl⟩ (by simp) a3 rfl
 rw[hc] at this;exact this
theorem Q14:JP 2 n (RR v n)=List.replicate n (Qk v):=by
 unfold JP;refine List.ext_getElem (by simp) fun i h1 h2=> ?_
 simp only[List.getElem_map,List.getElem_range,List.getElem_replicate];have hi:i<n:=by simpa using h1
 obtain⟨d,rfl⟩:=Nat.le.dest hi;have e1:RR v (i.succ+d)=RR v i++(V2 v++RR v d):=by
  rw[show i.succ+d=i+(1+d) by omega,Tl,Tl];simp[RR]
 rw[e1,List.drop_append_of_le_length (by rw[DI];exact Nat.le_refl _),List.drop_of_length_le (by rw[DI];exact Nat.le_refl _),List.nil_append,List.take_append_of_le_length (by simp[V2])]
 rfl
end
end Go.Proofs.YtolcgikajjkjgaaGreatDoor
end
section
namespace Go.Proofs.YtolcgikajjkjgaaGreatDoor
open Go HY
set_option maxRecDepth 1000000
theorem Bl{f:AV→Option AV}:∀ {xs:List AV},(∀x∈xs,f x=some x)→optL f xs=some xs
 | [],_=>rfl
 |x::xs,h=>by
  have h1:=h x (List.mem_cons_self ..);have h2:=Bl (f:=f) (xs:=xs) (fun y hy=>h y (List.mem_cons_of_mem _ hy))
  simp only[optL,h1,h2]
theorem rep_tree(v:gVal)(n:Nat):tree (lkb (hpOf 0 [.cells 0 (RR v n)])) false 12 (.bs 0 0 2 0 n)=some (.sl 2 (List.replicate n (Qk v))):=by
 have hl:(RR v n).length=n*2:=DI v n;have a3:optL (tree (lkb (hpOf 0 [.cells 0 (RR v n)])) false 11) (RR v n)=some (RR v n):=Bl fun x hx=>by
  simp only[RR,List.mem_flatten,List.mem_replicate] at hx;obtain⟨l,⟨_,rfl⟩,hx⟩:=hx;simp only[V2,List.mem_cons,List.not_mem_nil,or_false] at hx;rcases hx with rfl | rfl<;>rfl
 have hb:lkb (hpOf 0 [.cells 0 (RR v n)]) 0=some (.cells 0 (RR v n)):=rfl;unfold tree;simp only[hb,List.drop_zero,hl,Nat.zero_add,List.take_of_length_le (Nat.le_of_eq hl),a3,Q14];simp
theorem To(v:gVal):∀n:Nat,YJ 2 n (RR v n)=List.replicate n (Qk v)
 |0=>rfl
 |n+1=>by
  have e:RR v (n+1)=V2 v++RR v n:=by simp only[RR,List.replicate_succ,List.flatten_cons]
  have e1:(V2 v++RR v n).take 2=V2 v:=rfl;have e2:(V2 v++RR v n).drop 2=RR v n:=rfl;rw[e,YJ,e1,e2,To v n,List.replicate_succ];rfl
theorem rep_own(v:gVal)(n:Nat)(h0:1≤n)(h:n≤4096):PH 32 [.sl 2 [Qk v],.int .i64 n] [] (.ow 0 0 2 n) [.own 0 2 (List.replicate n (Qk v))]:=by
 have hc:cont v n n=RR v n:=by simp[cont]
 have hb:Mh Tryz.prog 32= .seq (cL (rb 0)) (.seq (cL (rb 1)) (.seq (cL (rb 2)) (.seq (cL (rb 3)) (.seq (cL (rb 4)) (.seq (cL (rb 5)) (.seq (.block 0 (.loop Do)) (.seq (cL (rb 7)) .ret))))))):=by kernel_rfl
 have hl:(RR v n).length=n*2:=DI v n;have h9:=q9 v n;rw[hc] at h9;have a5:=Cx.conv h9 (ML 4 [] 0 0 2 n (RR v n) (by decide) (by kernel_rfl) (by kernel_rfl) (by rw[hl];exact Nat.le_refl _) (by
  rw[List.take_of_length_le (Nat.le_of_eq hl),List.all_eq_true];intro x hx;simp only[RR,List.mem_flatten,List.mem_replicate] at hx;obtain⟨l,⟨_,rfl⟩,hx⟩:=hx;simp only[V2,List.mem_cons,List.not_mem_nil,or_false] at hx;rcases hx with rfl | rfl<;>rfl))
 have hw:=Cx.weak (ks:=[4]) (kb:=[{slot:=4}]) (vs:=[.ow 0 0 2 n]) (bs:=[.own 0 2 (List.replicate n (Qk v))]) a5 (cast (α:=[AV.ow 0 0 2 n]=[AV.ow 0 0 2 n]∧[Box.own 0 2 (YJ 2 n ((RR v n).take (n*2)))]=[.own 0 2 (List.replicate n (Qk v))]) (by kernel_rfl) ⟨rfl,by rw[List.take_of_length_le (Nat.le_of_eq hl),To]⟩)
 have a3:C (Mh Tryz.prog 32) ⟨48,Yc 0 [.sl 2 [Qk v],.int .i64 n],.nil,0⟩ .ret (Qz 48 [4] [.ow 0 0 2 n] [.own 0 2 (List.replicate n (Qk v))]):=by
  rw[hb];exact Cx.seq (q0 v n) (Cx.seq (q1 v n) (Cx.seq (q2 v n h) (Cx.seq (q3 v n h) (Cx.seq (q4 v n h) (Cx.seq (q5 v n h0) (Cx.seq (Cx.block (q8 v n h0 h)) (Cx.seq hw (Cx.x (k:=1) YI NP GV rfl rfl))))))))
 have:=Cx.fn' (φ:=false=false∧some (Mh Tryz.prog 32)=some (Mh Tryz.prog 32)∧48=48∧some (AV.ow 0 0 2 n)=some (AV.ow 0 0 2 n)) (f:=32) (N:=48) (r:=.ow 0 0 2 n) (by kernel_rfl) ⟨rfl,rfl,rfl,rfl⟩ (by simp) a3 rfl
 exact Cx.toH this
noncomputable def Kh(x0:List gVal)(x1:Int):Option (List gVal):=match x0 with
 | [v]=>if 1≤x1∧x1≤4096 then some (List.replicate x1.toNat v) else none
 |_=>none
def Ki(r:List gVal):AV:=.ow 0 0 2 (List.length r)
def Kg(r:List gVal):List Box:=[.own 0 2 (List.map Qk r)]
theorem L6(x0:List gVal)(x1:Int)(r:List gVal)(h:Kh x0 x1=some r):PH 32 [MM x0,eI x1] [] (Ki r) (Kg r):=by
 unfold Kh at h;split at h
 ·rename_i v;split at h
  ·rename_i hc;cases h;obtain⟨n,rfl⟩:=Int.eq_ofNat_of_zero_le (show(0:Int)≤x1 by omega)
   have h1:=rep_own v n (by omega) (by omega)
   have e1:Ki (List.replicate (Int.toNat (n:Int)) v)= .ow 0 0 2 n:=by simp[Ki]
   have e2:Kg (List.replicate (Int.toNat (n:Int)) v)=[.own 0 2 (List.replicate n (Qk v))]:=by simp[Kg,List.map_replicate]
   rw[e1,e2];exact h1
  ·cases h
 ·cases h
end Go.Proofs.YtolcgikajjkjgaaGreatDoor
end
section
namespace Go.Proofs.YtolcgikajjkjgaaGreatDoor
open Go HY
set_option maxRecDepth 1000000
set_option linter.unusedVariables false
noncomputable def Jd(x0:List gVal):Option (List gVal):=if List.length x0*16≤140737488355328∧List.length x0≤9223372036854775807 then some x0 else none
theorem Ln(x0:List gVal)(r:List gVal)(h:Jd x0=some r):PU 72 [MM x0] (MM r):=by
 unfold Jd at h;split at h
 ·rename_i hc;cases h;exact Pu1 (φ:=(List.map Qk x0=[]→LeT .nil (.sl 2 (List.map Qk x0)))∧(0=0∧(0+List.length (List.map Qk x0))*16≤140737488355328∧0+List.length (List.map Qk x0)≤9223372036854775807)∧∃l,(List.map Qk l=[]++List.map Qk x0∧List.length l=0+List.length (List.map Qk x0))∧List.length l=List.length (List.map Qk l)∧LeT (.sl 2 (List.map Qk l)) (.sl 2 (List.map Qk x0)))
   (hs:=[(4,.nn),(7,.z [{slot:=5,own:=2}] (some (.n Qk 7 (some .a))))]) (by kernel_rfl)
   ⟨fun e=>by rw[e];exact .nil 2,⟨rfl,by simpa using hc⟩,x0,⟨by simp,by simp⟩,⟨by simp,.refl _⟩⟩
 ·cases h
end Go.Proofs.YtolcgikajjkjgaaGreatDoor
end
