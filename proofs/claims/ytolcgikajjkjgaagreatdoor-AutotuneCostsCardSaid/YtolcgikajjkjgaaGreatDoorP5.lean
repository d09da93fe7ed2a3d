/- Proved in the last of these texts: for every input the law returns true and its arguments read afterwards as they read before. This text: a part of the proof. -/
import Derived.Test.YtolcgikajjkjgaaGreatDoorP4
noncomputable section
namespace Go.Proofs.YtolcgikajjkjgaaGreatDoor
open Go HY
set_option maxRecDepth 1000000
set_option linter.unusedVariables false
def YH(s:((List Qb)×Int))(u:Int)(o:Unit ⊕ Bool):List Alt:=[⟨fun(x:Unit)=>(Sum.inl x:Unit ⊕ Bool)=o,.exit 0,fun x=>[.undef],fun x=>[]⟩,⟨fun(x:Bool)=>(Sum.inr x:Unit ⊕ Bool)=o,.ret,fun x=>[.bool x],fun x=>[]⟩]
def Ki(s:((List Qb)×Int×Int))(u:Int)(o:Bool):List Alt:=jb o (fun b=>[.sl 20 (List.map Qg (s.1)),ii (s.2.1),ii (s.2.2),ii u,.bool b]) []
mutual
def Yb(x0:List Qb)(x1:Int):Option Bool:=
 some (List.length x0:Int)>>=fun v0=>
 some v0>>=fun v1=>
 ZE x0 x1 v0 (0:Int)>>=fun v2=>(match v2 with
 | (.inl v3)=>
 some true
 | (.inr v4)=>
 some v4)
 partial_fixpoint
def ZE(x0:List Qb)(x1:Int)(x7:Int)(x8:Int):Option (Unit ⊕ Bool):=
 if x8<x7 then
 some x8>>=fun v0=>
 (if x1< (1:Int) then
 some true
 else
 Option.map Qb.f (ix x0 x8)>>=fun v2=>
 Yb v2.fBody (wr (x1 - (1:Int)))>>=fun v3=>if v3 then
 some false
 else
 some true)>>=fun v1=>if v1 then
 some (.inr false)
 else
 ZE x0 x1 x7 (wr (v0+(1:Int)))
 else
 some (.inl ())
 partial_fixpoint
end
theorem Iu:(∀(x0:List Qb) (x1:Int) (r:Bool),Yb x0 x1=some r→PU 44 [Zx x0,eI x1] (eB r))∧(∀(x0:List Qb) (x1:Int) (x7:Int) (x8:Int) (o:Unit ⊕ Bool),ZE x0 x1 x7 x8=some o→LO 44 2 25 [0,1,7,8] [.sl 20 (List.map Qg x0),ii x1,ii x7,ii x8] [] [4] (YH (x0,x1) x7 o)):=
 Yb.mutual_partial_correctness (fun x0 x1 r=>PU 44 [Zx x0,eI x1] (eB r)) (fun x0 x1 x7 x8 o=>LO 44 2 25 [0,1,7,8] [.sl 20 (List.map Qg x0),ii x1,ii x7,ii x8] [] [4] (YH (x0,x1) x7 o))
 (fun ZE Q3i x0 x1 r h=>
 Pu2 (hs:=[(7,.n eI 7 none),(3000003,.l [] [0,1,7,8] [] [4] [] (YH (x0,x1)))]) ((kN _ (mLen (sh:=Qg) x0) fun v0=>(kL2 v0 (hL:=(Q3i x0 x1 v0 (0:Int))) (hA:=fun v1 v3=>(kEr (enc:=eB) true))
 (hB:=fun v1 v4=>(kEr (enc:=eB) v4)))) h))
 (fun Yb ZE Q3h Q3i x0 x1 x7 x8 o h=>
 Lp2 (hs:=[(9,.split),(12,.split),(16,.e Qv),(21,.cb),(5000004,.l [] [] [] [0,1,7,8,23] [] (Ki (x0,x1,x7)))]) (kb:=[]) (kbx:=[]) ((kIfD (p:=x8<x7) (kJb (id:=5000004) x8 (fun v0 a7 v1=>(kIfD (p:=x1< (1:Int)) (kXj (alts:=Ki (x0,x1,x7)) a7 true (.here () rfl (.refl _) (.refl _)))
 (kIxR (l:=x0) (k:=x8) YD fun v2=>(kCb (Q3h v2.fBody (wr (x1 - (1:Int)))) (kXj (alts:=Ki (x0,x1,x7)) a7 false (.next (.here () rfl (.refl _) (.refl _))))
 (kXj (alts:=Ki (x0,x1,x7)) a7 true (.here () rfl (.refl _) (.refl _)))))))
 (fun v0=>(kX (alts:=YH (x0,x1) x7) (.inr false) (.next (.here _ rfl (.refl _) (.refl _)))))
 (fun v0=>(kM0 (alts:=YH (x0,x1) x7) (Q3i x0 x1 x7 (wr (v0+(1:Int)))))))
 (kX (alts:=YH (x0,x1) x7) (.inl ()) (.here _ rfl (.refl _) (.refl _)))) h))
theorem HZ(x0:List Qb)(x1:Int)(r:Bool)(h:Yb x0 x1=some r):PU 44 [Zx x0,eI x1] (eB r):=(Iu).1 x0 x1 r h
def XK(s:((List Qb)×Int))(u:Int)(o:Int):List Alt:=[⟨fun(x:Int)=>x=o,.exit 0,fun x=>[ii x],fun x=>[]⟩]
mutual
def ZZ(x0:List Qb)(x1:Int):Option Int:=
 some (List.length x0:Int)>>=fun v0=>
 some (v0:Int)>>=fun v1=>
 some (List.length x0:Int)>>=fun v2=>
 some v2>>=fun v3=>
 Zo x0 x1 v1 v2 (0:Int)>>=fun v5=>
 some v5
 partial_fixpoint
def Zo(x0:List Qb)(x1:Int)(x5:Int)(a4:Int)(a3:Int):Option Int:=
 if a3<a4 then
 if x1<x5 then
 some x5
 else
 Option.map Qb.f (ix x0 a3)>>=fun v0=>
 ZZ v0.fBody (wr (x1 - x5))>>=fun v1=>
 some (wr (x5+v1):Int)>>=fun v2=>
 Zo x0 x1 v2 a4 (wr (a3+(1:Int)))
 else
 some x5
 partial_fixpoint
end
theorem MW:(∀(x0:List Qb) (x1:Int) (r:Int),ZZ x0 x1=some r→PU 45 [Zx x0,eI x1] (eI r))∧(∀(x0:List Qb) (x1:Int) (x5:Int) (a3:Int) (a6:Int) (o:Int),Zo x0 x1 x5 a3 a6=some o→LO 45 3 30 [0,1,5,10,11] [.sl 20 (List.map Qg x0),ii x1,ii x5,ii a3,ii a6] [] [5] (XK (x0,x1) a3 o)):=
 ZZ.mutual_partial_correctness (fun x0 x1 r=>PU 45 [Zx x0,eI x1] (eI r)) (fun x0 x1 x5 a3 a6 o=>LO 45 3 30 [0,1,5,10,11] [.sl 20 (List.map Qg x0),ii x1,ii x5,ii a3,ii a6] [] [5] (XK (x0,x1) a3 o))
 (fun Zo Q3g x0 x1 r h=>
 Pu2 (hs:=[(8,.n eI 8 none),(10,.n eI 10 none),(5,.n eI 5 none),(3000004,.l [] [0,1,5,10,11] [] [5] [] (XK (x0,x1)))]) ((kN _ (mLen (sh:=Qg) x0) fun v0=>(kN v0 rfl fun v1=>(kN _ (mLen (sh:=Qg) x0) fun v2=>(kL1 v2 (Q3g x0 x1 v1 v2 (0:Int)) fun v3 v5=>(kEr (enc:=eI) v5))))) h))
 (fun ZZ Zo Q3f Q3g x0 x1 x5 a3 a6 o h=>
 Lp2 (hs:=[(12,.split),(16,.split),(20,.e Qv),(26,.c eI),(5,.n eI 5 none)]) (kb:=[]) (kbx:=[]) ((kIfD (p:=a6<a3) (kIfD (p:=x1<x5) (kX (alts:=XK (x0,x1) a3) x5 (.here _ rfl (.refl _) (.refl _)))
 (kIxR (l:=x0) (k:=a6) YD fun v0=>(kC (sh:=eI) (Q3f v0.fBody (wr (x1 - x5))) fun v1=>(kN (wr (x5+v1)) rfl fun v2=>(kM0 (alts:=XK (x0,x1) a3) (Q3g x0 x1 v2 a3 (wr (a6+(1:Int)))))))))
 (kX (alts:=XK (x0,x1) a3) x5 (.here _ rfl (.refl _) (.refl _)))) h))
theorem Ls(x0:List Qb)(x1:Int)(r:Int)(h:ZZ x0 x1=some r):PU 45 [Zx x0,eI x1] (eI r):=(MW).1 x0 x1 r h
def UY(x0:Int):Option Bool:=
 if(97:Int)≤x0 then
 some (decide (x0≤(122:Int)))
 else
 some false
theorem L0(x0:Int)(r:Bool)(h:UY x0=some r):PU 91 [eI32 x0] (eB r):=
 Pu2 (hs:=[(4,.split)]) ((kIfD (p:=(97:Int)≤x0) (kEr (enc:=eB) (decide (x0≤(122:Int))))
 (kEr (enc:=eB) false)) h)
def Np(x0:Int):Option Bool:=
 if(48:Int)≤x0 then
 some (decide (x0≤(57:Int)))
 else
 some false
theorem SK(x0:Int)(r:Bool)(h:Np x0=some r):PU 116 [eI32 x0] (eB r):=
 Pu2 (hs:=[(4,.split)]) ((kIfD (p:=(48:Int)≤x0) (kEr (enc:=eB) (decide (x0≤(57:Int))))
 (kEr (enc:=eB) false)) h)
def Dg(x0:Int):Option Bool:=
 UY x0>>=fun v0=>if v0 then
 some true
 else
 Np x0>>=fun v1=>if v1 then
 some true
 else
 some (x0==(95:Int))
theorem Tk(x0:Int)(r:Bool)(h:Dg x0=some r):PU 93 [eI32 x0] (eB r):=
 Pu2 (hs:=[(4,.cb),(7,.cb)]) ((kCb (L0 x0) (kEr (enc:=eB) true)
 (kCb (SK x0) (kEr (enc:=eB) true)
 (kEr (enc:=eB) (x0==(95:Int))))) h)
def Va(s:Str)(u:Unit)(o:Int):List Alt:=[⟨fun(x:Int)=>x=o,.exit 0,fun x=>[ii x],fun x=>[]⟩]
def Ky(s:Str)(u:Int)(o:Bool):List Alt:=jb o (fun b=>[.str s,.fn 93 [],ii u,.bool b]) []
def ZP(x0:Str)(x5:Int):Option Int:=
 some x5>>=fun v0=>
 (if x5< (↑(List.length x0):Int) then
 ix x0 x5>>=fun v2=>
 Dg (IntKind.i32.wrap (↑v2.toNat:Int))>>=fun v3=>if v3 then
 some true
 else
 some false
 else
 some false)>>=fun v1=>if v1 then
 ZP x0 (wr (v0+(1:Int)))
 else
 some v0
 partial_fixpoint
theorem Ij(x0:Str)(x5:Int)(o:Int)(h:ZP x0 x5=some o):LO 92 2 21 [0,1,5] [.str x0,.fn 93 [],ii x5] [] [5] (Va x0 () o):=
 ZP.partial_correctness x0 (fun x5 o=>LO 92 2 21 [0,1,5] [.str x0,.fn 93 [],ii x5] [] [5] (Va x0 () o))
 (fun ZP Q34 x5 o h=>
 Lp2 (hs:=[(9,.split),(14,.u),(16,.cb),(5000002,.l [] [] [] [0,1,5,17] [] (Ky x0))]) (kb:=[]) (kbx:=[]) ((kJb (id:=5000002) x5 (fun v0 a5 v1=>(kIfD (p:=x5< (↑(List.length x0):Int)) (kU (s:=x0) (k:=x5) fun v2=>(kCb (Tk (IntKind.i32.wrap (↑v2.toNat:Int))) (kXj (alts:=Ky x0) a5 true (.here () rfl (.refl _) (.refl _)))
 (kXj (alts:=Ky x0) a5 false (.next (.here () rfl (.refl _) (.refl _))))))
 (kXj (alts:=Ky x0) a5 false (.next (.here () rfl (.refl _) (.refl _))))))
 (fun v0=>(kM0 (alts:=Va x0 ()) (Q34 (wr (v0+(1:Int))))))
 (fun v0=>(kX (alts:=Va x0 ()) v0 (.here _ rfl (.refl _) (.refl _))))) h)) x5 o h
def Gf(x0:Str):Option Int:=
 some ()>>=fun v0=>
 ZP x0 (0:Int)>>=fun v2=>
 some v2
theorem Ev(x0:Str)(r:Int)(h:Gf x0=some r):PU 92 [eS x0,.fn 93 []] (eI r):=
 Pu2 (hs:=[(3000003,.l [] [0,1,5] [] [5] [] (Va x0))]) ((kL1 () (Ij x0 (0:Int)) fun v0 v2=>(kEr (enc:=eI) v2)) h)
def Xz(s:((List Str)×Str))(u:Int)(o:Unit ⊕ Int):List Alt:=[⟨fun(x:Unit)=>(Sum.inl x:Unit ⊕ Int)=o,.exit 0,fun x=>[.undef],fun x=>[]⟩,⟨fun(x:Int)=>(Sum.inr x:Unit ⊕ Int)=o,.ret,fun x=>[ii x],fun x=>[]⟩]
def Zl(x0:List Str)(x1:Str)(x7:Int)(x8:Int):Option (Unit ⊕ Int):=
 if x8<x7 then
 ix x0 x8>>=fun v0=>
 if x1==v0 then
 some (.inr x8)
 else
 Zl x0 x1 x7 (wr (x8+(1:Int)))
 else
 some (.inl ())
 partial_fixpoint
theorem M8(x0:List Str)(x1:Str)(x7:Int)(x8:Int)(o:Unit ⊕ Int)(h:Zl x0 x1 x7 x8=some o):LO 140 2 19 [0,1,7,8] [.sl 1 (List.map eS x0),.str x1,ii x7,ii x8] [] [4] (Xz (x0,x1) x7 o):=
 Zl.partial_correctness x0 x1 x7 (fun x8 o=>LO 140 2 19 [0,1,7,8] [.sl 1 (List.map eS x0),.str x1,ii x7,ii x8] [] [4] (Xz (x0,x1) x7 o))
 (fun Zl Q52 x8 o h=>
 Lp2 (hs:=[(9,.split),(14,.e eS),(16,.split)]) (kb:=[]) (kbx:=[]) ((kIfD (p:=x8<x7) (kIx (enc:=eS) (l:=x0) (k:=x8) fun v0=>(kIf (c:=x1==v0) (kX (alts:=Xz (x0,x1) x7) (.inr x8) (.next (.here _ rfl (.refl _) (.refl _))))
 (kM0 (alts:=Xz (x0,x1) x7) (Q52 (wr (x8+(1:Int)))))))
 (kX (alts:=Xz (x0,x1) x7) (.inl ()) (.here _ rfl (.refl _) (.refl _)))) h)) x8 o h
def UZ(x0:List Str)(x1:Str):Option Int:=
 some (List.length x0:Int)>>=fun v0=>
 some v0>>=fun v1=>
 Zl x0 x1 v0 (0:Int)>>=fun v2=>(match v2 with
 | (.inl v3)=>
 some (-1:Int)
 | (.inr v4)=>
 some v4)
theorem L2(x0:List Str)(x1:Str)(r:Int)(h:UZ x0 x1=some r):PU 140 [eLS x0,eS x1] (eI r):=
 Pu2 (hs:=[(7,.n eI 7 none),(3000003,.l [] [0,1,7,8] [] [4] [] (Xz (x0,x1)))]) ((kN _ (mLen (sh:=eS) x0) fun v0=>(kL2 v0 (hL:=(M8 x0 x1 v0 (0:Int))) (hA:=fun v1 v3=>(kEr (enc:=eI) (-1:Int)))
 (hB:=fun v1 v4=>(kEr (enc:=eI) v4)))) h)
def XC(x0:List Str)(x1:Str):Option Bool:=
 UZ x0 x1>>=fun v0=>
 some (decide ((0:Int)≤v0))
theorem U2(x0:List Str)(x1:Str)(r:Bool)(h:XC x0 x1=some r):PU 117 [eLS x0,eS x1] (eB r):=
 Pu2 (hs:=[(7,.c eI)]) ((kC (sh:=eI) (L2 x0 x1) fun v0=>(kEr (enc:=eB) (decide ((0:Int)≤v0)))) h)
def DI(x0:Str):Option Bool:=
 Cv>>=fun v0=>
 XC v0 x0>>=fun v1=>
 some v1
theorem HT(x0:Str)(r:Bool)(h:DI x0=some r):PU 94 [eS x0] (eB r):=
 Pu2 (hs:=[(3,.c eLS),(5,.c eB)]) ((kC (sh:=eLS) (Eu) fun v0=>(kC (sh:=eB) (U2 v0 x0) fun v1=>(kEr (enc:=eB) v1))) h)
def Vo(x0:Str):Option Bool:=
 if !x0==[] then
 if(↑(List.length x0):Int)≤(16:Int) then
 ix x0 (0:Int)>>=fun v0=>
 UY (IntKind.i32.wrap (↑v0.toNat:Int))>>=fun v1=>if v1 then
 Gf x0>>=fun v2=>
 if v2==(↑(List.length x0):Int) then
 DI x0>>=fun v3=>
 some (!v3)
 else
 some false
 else
 some false
 else
 some false
 else
 some false
theorem Dl(x0:Str)(r:Bool)(h:Vo x0=some r):PU 73 [eS x0] (eB r):=
 Pu2 (hs:=[(4,.split),(8,.split),(12,.u),(14,.cb),(18,.c eI),(21,.split),(25,.c eB)]) ((kIf (c:= !x0==[]) (kIfD (p:=(↑(List.length x0):Int)≤(16:Int)) (kU (s:=x0) (k:=(0:Int)) fun v0=>(kCb (L0 (IntKind.i32.wrap (↑v0.toNat:Int))) (kC (sh:=eI) (Ev x0) fun v2=>(kIf (c:=v2==(↑(List.length x0):Int)) (kC (sh:=eB) (HT x0) fun v3=>(kEr (enc:=eB) (!v3)))
 (kEr (enc:=eB) false)))
 (kEr (enc:=eB) false)))
 (kEr (enc:=eB) false))
 (kEr (enc:=eB) false)) h)
def Jx(x0:Qc)(x1:Qc):Option Bool:=
 some (x0.fName==x1.fName)
theorem ND(x0:Qc)(x1:Qc)(r:Bool)(h:Jx x0 x1=some r):PU 75 [Q7 x0,.ip 8 [.agg [.str x1.fName,ii x1.fType.fKind,ii x1.fType.fBits,ii x1.fType.fFrac,ii x1.fType.fRound,ii x1.fType.fOver,.sl 1 (List.map eI x1.fDims),ii x1.fUse]] 0 0] (eB r):=
 Pu2 (hs:=[]) ((kEr (enc:=eB) (x0.fName==x1.fName)) h)
def Za(s:((List Qc)×Qc))(u:Int)(o:Unit ⊕ Int):List Alt:=[⟨fun(x:Unit)=>(Sum.inl x:Unit ⊕ Int)=o,.exit 0,fun x=>[.undef],fun x=>[]⟩,⟨fun(x:Int)=>(Sum.inr x:Unit ⊕ Int)=o,.ret,fun x=>[ii x],fun x=>[]⟩]
def QP(x0:List Qc)(x1:Qc)(x7:Int)(x8:Int):Option (Unit ⊕ Int):=
 if x8<x7 then
 ix x0 x8>>=fun v0=>
 Jx v0 x1>>=fun v1=>if v1 then
 some (.inr x8)
 else
 QP x0 x1 x7 (wr (x8+(1:Int)))
 else
 some (.inl ())
 partial_fixpoint
theorem GW(x0:List Qc)(x1:Qc)(x7:Int)(x8:Int)(o:Unit ⊕ Int)(h:QP x0 x1 x7 x8=some o):LO 95 2 19 [0,1,7,8] [.sl 8 (List.map Q7 x0),.fn 75 [.ip 8 [.agg [.str x1.fName,ii x1.fType.fKind,ii x1.fType.fBits,ii x1.fType.fFrac,ii x1.fType.fRound,ii x1.fType.fOver,.sl 1 (List.map eI x1.fDims),ii x1.fUse]] 0 0],ii x7,ii x8] [] [4] (Za (x0,x1) x7 o):=
 QP.partial_correctness x0 x1 x7 (fun x8 o=>LO 95 2 19 [0,1,7,8] [.sl 8 (List.map Q7 x0),.fn 75 [.ip 8 [.agg [.str x1.fName,ii x1.fType.fKind,ii x1.fType.fBits,ii x1.fType.fFrac,ii x1.fType.fRound,ii x1.fType.fOver,.sl 1 (List.map eI x1.fDims),ii x1.fUse]] 0 0],ii x7,ii x8] [] [4] (Za (x0,x1) x7 o))
 (fun QP Q4w x8 o h=>
 Lp2 (hs:=[(9,.split),(14,.e Q7),(16,.cb)]) (kb:=[]) (kbx:=[]) ((kIfD (p:=x8<x7) (kIx (enc:=Q7) (l:=x0) (k:=x8) fun v0=>(kCb (ND v0 x1) (kX (alts:=Za (x0,x1) x7) (.inr x8) (.next (.here _ rfl (.refl _) (.refl _))))
 (kM0 (alts:=Za (x0,x1) x7) (Q4w (wr (x8+(1:Int)))))))
 (kX (alts:=Za (x0,x1) x7) (.inl ()) (.here _ rfl (.refl _) (.refl _)))) h)) x8 o h
def K4(x0:List Qc)(x1:Qc):Option Int:=
 some (List.length x0:Int)>>=fun v0=>
 some v0>>=fun v1=>
 QP x0 x1 v0 (0:Int)>>=fun v2=>(match v2 with
 | (.inl v3)=>
 some (-1:Int)
 | (.inr v4)=>
 some v4)
theorem DS(x0:List Qc)(x1:Qc)(r:Int)(h:K4 x0 x1=some r):PU 95 [Nd x0,.fn 75 [.ip 8 [.agg [.str x1.fName,ii x1.fType.fKind,ii x1.fType.fBits,ii x1.fType.fFrac,ii x1.fType.fRound,ii x1.fType.fOver,.sl 1 (List.map eI x1.fDims),ii x1.fUse]] 0 0]] (eI r):=
 Pu2 (hs:=[(7,.n eI 7 none),(3000003,.l [] [0,1,7,8] [] [4] [] (Za (x0,x1)))]) ((kN _ (mLen (sh:=Q7) x0) fun v0=>(kL2 v0 (hL:=(GW x0 x1 v0 (0:Int))) (hA:=fun v1 v3=>(kEr (enc:=eI) (-1:Int)))
 (hB:=fun v1 v4=>(kEr (enc:=eI) v4)))) h)
def X2(x0:List Qc)(x1:Qc):Option Bool:=
 K4 x0 x1>>=fun v0=>
 some (decide ((0:Int)≤v0))
theorem GR(x0:List Qc)(x1:Qc)(r:Bool)(h:X2 x0 x1=some r):PU 74 [Nd x0,.fn 75 [.ip 8 [.agg [.str x1.fName,ii x1.fType.fKind,ii x1.fType.fBits,ii x1.fType.fFrac,ii x1.fType.fRound,ii x1.fType.fOver,.sl 1 (List.map eI x1.fDims),ii x1.fUse]] 0 0]] (eB r):=
 Pu2 (hs:=[(7,.c eI)]) ((kC (sh:=eI) (DS x0 x1) fun v0=>(kEr (enc:=eB) (decide ((0:Int)≤v0)))) h)
def Nr(x0:Q8):Option Bool:=
 some ((Q8.mk x0.fKind (0:Int) (0:Int) (0:Int) (0:Int)))>>=fun v0=>
 some (x0.fKind==v0.fKind&& (x0.fBits==v0.fBits&& (x0.fFrac==v0.fFrac&& (x0.fRound==v0.fRound&& (x0.fOver==v0.fOver&&true)))))
theorem SY(x0:Q8)(r:Bool)(h:Nr x0=some r):PU 85 [Qd x0] (eB r):=
 Pu2 (hs:=[(6,.n Qd 6 none)]) ((kW (sh:=Qd) (Q8.mk x0.fKind (0:Int) (0:Int) (0:Int) (0:Int)) lr fun v0=>(kEr (enc:=eB) (x0.fKind==v0.fKind&& (x0.fBits==v0.fBits&& (x0.fFrac==v0.fFrac&& (x0.fRound==v0.fRound&& (x0.fOver==v0.fOver&&true))))))) h)
def Xe(s:Q8)(u:Unit)(o:Bool):List Alt:=[⟨fun(x:Bool)=>x=o,.normal,fun x=>[.ptr 0 0 0,.bool x],fun x=>[.cells 0 (Qd s).cells]⟩]
def Z6(s:Unit)(u:Unit)(o:Bool):List Alt:=jb o (fun b=>[.bool b]) []
def YK(x0:Q8):Option Int:=
 some ()>>=fun v0=>
 (if(1:Int)≤x0.fRound then
 if x0.fRound≤(4:Int) then
 if x0.fOver==(1:Int) then
 some true
 else
 some (x0.fOver==(2:Int))
 else
 some false
 else
 some false)>>=fun v2=>
 some ()>>=fun v3=>
 (if x0.fKind !=(2:Int) then
 some true
 else
 if x0.fBits< (2:Int) then
 some true
 else
 if(31:Int)<x0.fBits then
 some true
 else
 if x0.fFrac< (0:Int) then
 some true
 else
 if(30:Int)<x0.fFrac then
 some true
 else
 if v2 then
 some false
 else
 some true)>>=fun v4=>if v4 then
 some (10:Int)
 else
 some (0:Int)
theorem W3(x0:Q8)(r:Int)(h:YK x0=some r):PU 86 [Qd x0] (eI r):=
 Pu2 (hs:=[(6,.split),(10,.split),(15,.split),(24,.split),(28,.split),(33,.split),(38,.split),(43,.split),(46,.split),(5000001,.l [] [] [] [1,3] [kk 1] (Xe x0)),(5000002,.l [] [] [] [48] [] (Z6 ()))]) ((kJ1 (id:=5000001) () (fun v0 a5 v1=>(kIfD (p:=(1:Int)≤x0.fRound) (kIfD (p:=x0.fRound≤(4:Int)) (kIf (c:=x0.fOver==(1:Int)) (kXj (alts:=Xe x0) a5 true (.here _ rfl (.refl _) (.refl _)))
 (kXj (alts:=Xe x0) a5 (x0.fOver==(2:Int)) (.here _ rfl (.refl _) (.refl _))))
 (kXj (alts:=Xe x0) a5 false (.here _ rfl (.refl _) (.refl _))))
 (kXj (alts:=Xe x0) a5 false (.here _ rfl (.refl _) (.refl _)))))
 (fun v0 v2=>(kJb (id:=5000002) () (fun v3 a4 v4=>(kIf (c:=x0.fKind !=(2:Int)) (kXj (alts:=Z6 ()) a4 true (.here () rfl (.refl _) (.refl _)))
 (kIfD (p:=x0.fBits< (2:Int)) (kXj (alts:=Z6 ()) a4 true (.here () rfl (.refl _) (.refl _)))
 (kIfD (p:=(31:Int)<x0.fBits) (kXj (alts:=Z6 ()) a4 true (.here () rfl (.refl _) (.refl _)))
 (kIfD (p:=x0.fFrac< (0:Int)) (kXj (alts:=Z6 ()) a4 true (.here () rfl (.refl _) (.refl _)))
 (kIfD (p:=(30:Int)<x0.fFrac) (kXj (alts:=Z6 ()) a4 true (.here () rfl (.refl _) (.refl _)))
 (kIf (c:=v2) (kXj (alts:=Z6 ()) a4 false (.next (.here () rfl (.refl _) (.refl _))))
 (kXj (alts:=Z6 ()) a4 true (.here () rfl (.refl _) (.refl _))))))))))
 (fun v3=>(kEr (enc:=eI) (10:Int)))
 (fun v3=>(kEr (enc:=eI) (0:Int)))))) h)
def Yx(s:Q8)(u:Int)(o:Bool):List Alt:=jb o (fun b=>[.ptr 0 0 0,ii u,.bool b]) [.cells 0 (Qd s).cells]
def XZ(x0:Q8):Option Int:=
 some x0.fKind>>=fun v0=>
 (if x0.fKind==(1:Int) then
 some true
 else
 if x0.fKind==(3:Int) then
 some true
 else
 some false)>>=fun v1=>if v1 then
 Nr x0>>=fun v3=>if v3 then
 some (0:Int)
 else
 some (10:Int)
 else
 if v0==(2:Int) then
 YK x0>>=fun v5=>
 if v5==(0:Int) then
 some (0:Int)
 else
 some (10:Int)
 else
 some (10:Int)
theorem Jz(x0:Q8)(r:Int)(h:XZ x0=some r):PU 63 [Qd x0] (eI r):=
 Pu2 (hs:=[(5,.split),(5,.split),(9,.cb),(11,.split),(13,.c eI),(14,.split),(6000004,.l [] [] [] [1,4,5] [kk 1] (Yx x0))]) ((kJb (id:=6000004) x0.fKind (fun v0 a4 v1=>(kIf (c:=x0.fKind==(1:Int)) (kXj (alts:=Yx x0) a4 true (.here () rfl (.refl _) (.refl _)))
 (kIf (c:=x0.fKind==(3:Int)) (kXj (alts:=Yx x0) a4 true (.here () rfl (.refl _) (.refl _)))
 (kXj (alts:=Yx x0) a4 false (.next (.here () rfl (.refl _) (.refl _)))))))
 (fun v0=>(kCb (SY x0) (kEr (enc:=eI) (0:Int))
 (kEr (enc:=eI) (10:Int))))
 (fun v0=>(kIf (c:=v0==(2:Int)) (kC (sh:=eI) (W3 x0) fun v5=>(kIf (c:=v5==(0:Int)) (kEr (enc:=eI) (0:Int))
 (kEr (enc:=eI) (10:Int))))
 (kEr (enc:=eI) (10:Int))))) h)
def YJ(s:Unit)(u:((List Int)×Int))(o:Unit ⊕ Int):List Alt:=[⟨fun(x:Unit)=>(Sum.inl x:Unit ⊕ Int)=o,.exit 2,fun x=>[.undef],fun x=>[]⟩,⟨fun(x:Int)=>(Sum.inr x:Unit ⊕ Int)=o,.ret,fun x=>[ii x],fun x=>[]⟩]
def ZG(x5:Int)(a4:List Int)(a5:Int)(a3:Int):Option (Unit ⊕ Int):=
 if a3<a5 then
 ix a4 a3>>=fun v0=>
 if x5≠(0:Int) then
 if wr (Int.tdiv (4096:Int) x5)<v0 then
 some (.inr (2:Int))
 else
 some (wr (x5*v0):Int)>>=fun v1=>
 ZG v1 a4 a5 (wr (a3+(1:Int)))
 else none
 else
 some (.inl ())
 partial_fixpoint
theorem Lu(x5:Int)(a3:List Int)(a4:Int)(a5:Int)(o:Unit ⊕ Int)(h:ZG x5 a3 a4 a5=some o):LO 52 11 34 [5,20,21,22] [ii x5,.sl 1 (List.map eI a3),ii a4,ii a5] [] [2] (YJ () (a3,a4) o):=
 ZG.partial_correctness a3 a4 (fun x5 a5 o=>LO 52 11 34 [5,20,21,22] [ii x5,.sl 1 (List.map eI a3),ii a4,ii a5] [] [2] (YJ () (a3,a4) o))
 (fun ZG Q4p x5 a5 o h=>
 Lp2 (hs:=[(23,.split),(24,.e eI),(28,.s),(29,.split),(5,.n eI 5 none)]) (kb:=[]) (kbx:=[]) ((kIfD (p:=a5<a4) (kIx (enc:=eI) (l:=a3) (k:=a5) fun v0=>(kG (p:=x5≠(0:Int)) (kIfD (p:=wr (Int.tdiv (4096:Int) x5)<v0) (kX (alts:=YJ () (a3,a4)) (.inr (2:Int)) (.next (.here _ rfl (.refl _) (.refl _))))
 (kN (wr (x5*v0)) rfl fun v1=>(kM0 (alts:=YJ () (a3,a4)) (Q4p v1 (wr (a5+(1:Int)))))))))
 (kX (alts:=YJ () (a3,a4)) (.inl ()) (.here _ rfl (.refl _) (.refl _)))) h)) x5 a5 o h
def YZ(s:List Int)(u:((List Int)×Int))(o:Unit ⊕ Int):List Alt:=[⟨fun(x:Unit)=>(Sum.inl x:Unit ⊕ Int)=o,.exit 0,fun x=>[.sl 1 (List.map eI s),.undef],fun x=>[]⟩,⟨fun(x:Int)=>(Sum.inr x:Unit ⊕ Int)=o,.ret,fun x=>[.sl 1 (List.map eI s),ii x],fun x=>[]⟩]
def ZR(a4:List Int)(a5:Int)(a3:Int):Option (Unit ⊕ Int):=
 if a3<a5 then
 ix a4 a3>>=fun v0=>
 if v0< (1:Int) then
 some (.inr (1:Int))
 else
 ZR a4 a5 (wr (a3+(1:Int)))
 else
 some (.inl ())
 partial_fixpoint
theorem In(x0:List Int)(a3:List Int)(a4:Int)(a5:Int)(o:Unit ⊕ Int)(h:ZR a3 a4 a5=some o):LO 52 4 34 [0,11,12,13] [.sl 1 (List.map eI x0),.sl 1 (List.map eI a3),ii a4,ii a5] [] [0,2] (YZ x0 (a3,a4) o):=
 ZR.partial_correctness a3 a4 (fun a5 o=>∀(x0:List Int),LO 52 4 34 [0,11,12,13] [.sl 1 (List.map eI x0),.sl 1 (List.map eI a3),ii a4,ii a5] [] [0,2] (YZ x0 (a3,a4) o))
 (fun ZR Q4q a5 o h x0=>
 Lp2 (hs:=[(14,.split),(15,.e eI),(18,.split)]) (kb:=[]) (kbx:=[]) ((kIfD (p:=a5<a4) (kIx (enc:=eI) (l:=a3) (k:=a5) fun v0=>(kIfD (p:=v0< (1:Int)) (kX (alts:=YZ x0 (a3,a4)) (.inr (1:Int)) (.next (.here _ rfl (.refl _) (.refl _))))
 (kM0 (alts:=YZ x0 (a3,a4)) (fun y hy=>Q4q (wr (a5+(1:Int))) y hy x0))))
 (kX (alts:=YZ x0 (a3,a4)) (.inl ()) (.here _ rfl (.refl _) (.refl _)))) h)) a5 o h x0
def U1(x0:List Int):Option Int:=
 some (List.length x0:Int)>>=fun v0=>
 if(6:Int)<v0 then
 some (2:Int)
 else
 some (List.length x0:Int)>>=fun v1=>
 some (x0,v1)>>=fun v2=>
 ZR x0 v1 (0:Int)>>=fun v3=>(match v3 with
 | (.inl v4)=>
 some ((1:Int):Int)>>=fun v5=>
 some (List.length x0:Int)>>=fun v6=>
 some (x0,v6)>>=fun v7=>
 ZG v5 x0 v6 (0:Int)>>=fun v8=>(match v8 with
 | (.inl v9)=>
 some (0:Int)
 | (.inr v10)=>
 some v10)
 | (.inr v11)=>
 some v11)
theorem M7(x0:List Int)(r:Int)(h:U1 x0=some r):PU 52 [eLI x0] (eI r):=
 Pu2 (hs:=[(9,.n eI 9 none),(10,.split),(12,.n eI 12 none),(21,.n eI 21 none),(5,.n eI 5 none),(3000012,.l [] [5,20,21,22] [] [2] [] (YJ ())),(3000005,.l [] [0,11,12,13] [] [0,2] [] (YZ x0))]) ((kN _ (mLen (sh:=eI) x0) fun v0=>(kIfD (p:=(6:Int)<v0) (kEr (enc:=eI) (2:Int))
 (kN _ (mLen (sh:=eI) x0) fun v1=>(kL2 (x0,v1) (hL:=(In x0 x0 v1 (0:Int))) (hA:=fun v2 v4=>(kN (1:Int) rfl fun v5=>(kN _ (mLen (sh:=eI) x0) fun v6=>(kL2 (x0,v6) (hL:=(Lu v5 x0 v6 (0:Int))) (hA:=fun v7 v9=>(kEr (enc:=eI) (0:Int)))
 (hB:=fun v7 a4=>(kEr (enc:=eI) a4))))))
 (hB:=fun v2 a5=>(kEr (enc:=eI) a5)))))) h)
def QT(s:List Qc)(u:Int)(o:Unit ⊕ Int):List Alt:=[⟨fun(x:Unit)=>(Sum.inl x:Unit ⊕ Int)=o,.exit 0,fun x=>[.undef],fun x=>[]⟩,⟨fun(x:Int)=>(Sum.inr x:Unit ⊕ Int)=o,.ret,fun x=>[ii x],fun x=>[]⟩]
def XN(s:((List Qc)×Int))(u:Int)(o:Bool):List Alt:=jb o (fun b=>[.sl 8 (List.map Q7 (s.1)),ii (s.2),ii u,.bool b]) []
def Z7(x0:List Qc)(x7:Int)(x8:Int):Option (Unit ⊕ Int):=
 if x8<x7 then
 ix x0 x8>>=fun v0=>
 Vo v0.fName>>=fun v1=>if v1 then
 if(0:Int)≤(0:Int)∧(0:Int)≤x8∧x8≤(↑(List.map Q7 x0).length:Int) then
 some ((List.drop (0:Nat) (List.take x8.toNat x0)):List Qc)>>=fun v2=>
 X2 v2 v0>>=fun v3=>if v3 then
 some (.inr (8:Int))
 else
 XZ v0.fType>>=fun v4=>
 if v4 !=(0:Int) then
 some (.inr (10:Int))
 else
 U1 v0.fDims>>=fun v5=>
 if v5 !=(0:Int) then
 some (.inr v5)
 else
 some x8>>=fun v6=>
 (if v0.fUse< (1:Int) then
 some true
 else
 if(3:Int)<v0.fUse then
 some true
 else
 some false)>>=fun v7=>if v7 then
 some (.inr (1:Int))
 else
 Z7 x0 x7 (wr (v6+(1:Int)))
 else none
 else
 some (.inr (7:Int))
 else
 some (.inl ())
 partial_fixpoint
theorem Nv(x0:List Qc)(x7:Int)(x8:Int)(o:Unit ⊕ Int)(h:Z7 x0 x7 x8=some o):LO 46 2 46 [0,7,8] [.sl 8 (List.map Q7 x0),ii x7,ii x8] [] [2] (QT x0 x7 o):=
 Z7.partial_correctness x0 x7 (fun x8 o=>LO 46 2 46 [0,7,8] [.sl 8 (List.map Q7 x0),ii x7,ii x8] [] [2] (QT x0 x7 o))
 (fun Z7 Q38 x8 o h=>
 Lp2 (hs:=[(9,.split),(13,.e Q7),(18,.cb),(23,.n Nd 23 (some .s)),(24,.z [{slot:=4,fz:=true}] none),(25,.cb),(29,.c eI),(30,.split),(33,.c eI),(35,.split),(39,.split),(43,.split),(5000014,.l [] [] [] [0,7,8,44] [] (XN (x0,x7)))]) (kb:=[]) (kbx:=[]) ((kIfD (p:=x8<x7) (kIx (enc:=Q7) (l:=x0) (k:=x8) fun v0=>(kCb (Dl v0.fName) (kG (p:=(0:Int)≤(0:Int)∧(0:Int)≤x8∧x8≤(↑(List.map Q7 x0).length:Int)) (kW (sh:=Nd) (List.drop (0:Nat) (List.take x8.toNat x0)) (leSl (mTD (sh:=Q7) x0 x8.toNat (0:Nat))) fun v2=>(kCb (GR v2 v0) (kX (alts:=QT x0 x7) (.inr (8:Int)) (.next (.here _ rfl (.refl _) (.refl _))))
 (kC (sh:=eI) (Jz v0.fType) fun v4=>(kIf (c:=v4 !=(0:Int)) (kX (alts:=QT x0 x7) (.inr (10:Int)) (.next (.here _ rfl (.refl _) (.refl _))))
 (kC (sh:=eI) (M7 v0.fDims) fun v5=>(kIf (c:=v5 !=(0:Int)) (kX (alts:=QT x0 x7) (.inr v5) (.next (.here _ rfl (.refl _) (.refl _))))
 (kJb (id:=5000014) x8 (fun v6 a6 v7=>(kIfD (p:=v0.fUse< (1:Int)) (kXj (alts:=XN (x0,x7)) a6 true (.here () rfl (.refl _) (.refl _)))
 (kIfD (p:=(3:Int)<v0.fUse) (kXj (alts:=XN (x0,x7)) a6 true (.here () rfl (.refl _) (.refl _)))
 (kXj (alts:=XN (x0,x7)) a6 false (.next (.here () rfl (.refl _) (.refl _)))))))
 (fun v6=>(kX (alts:=QT x0 x7) (.inr (1:Int)) (.next (.here _ rfl (.refl _) (.refl _)))))
 (fun v6=>(kM0 (alts:=QT x0 x7) (Q38 (wr (v6+(1:Int))))))))))))))
 (kX (alts:=QT x0 x7) (.inr (7:Int)) (.next (.here _ rfl (.refl _) (.refl _))))))
 (kX (alts:=QT x0 x7) (.inl ()) (.here _ rfl (.refl _) (.refl _)))) h)) x8 o h
def V4(x0:List Qc):Option Int:=
 some (List.length x0:Int)>>=fun v0=>
 some v0>>=fun v1=>
 Z7 x0 v0 (0:Int)>>=fun v2=>(match v2 with
 | (.inl v3)=>
 some (0:Int)
 | (.inr v4)=>
 some v4)
theorem Mr(x0:List Qc)(r:Int)(h:V4 x0=some r):PU 46 [Nd x0] (eI r):=
 Pu2 (hs:=[(7,.n eI 7 none),(3000003,.l [] [0,7,8] [] [2] [] (QT x0))]) ((kN _ (mLen (sh:=Q7) x0) fun v0=>(kL2 v0 (hL:=(Nv x0 v0 (0:Int))) (hA:=fun v1 v3=>(kEr (enc:=eI) (0:Int)))
 (hB:=fun v1 v4=>(kEr (enc:=eI) v4)))) h)
def Cj(x0:Int):Option Bool:=
 if(2:Int)≤x0 then
 some (decide (x0≤(31:Int)))
 else
 some false
theorem Id(x0:Int)(r:Bool)(h:Cj x0=some r):PU 171 [eI x0] (eB r):=
 Pu2 (hs:=[(4,.split)]) ((kIfD (p:=(2:Int)≤x0) (kEr (enc:=eB) (decide (x0≤(31:Int))))
 (kEr (enc:=eB) false)) h)
def Wv(x0:Int):Option Int:=
 Cj x0>>=fun v0=>if v0 then
 if(0:Int)≤w6 (wr (x0 - (1:Int))) then
 some (wr ((0:Int) - wr ((1:Int)*(2:Int)^min (w6 (wr (x0 - (1:Int)))).toNat (64:Nat))))
 else none
 else
 some (0:Int)
theorem Tq(x0:Int)(r:Int)(h:Wv x0=some r):PU 135 [eI x0] (eI r):=
 Pu2 (hs:=[(4,.cb),(9,.s)]) ((kCb (Id x0) (kG (p:=(0:Int)≤w6 (wr (x0 - (1:Int)))) (kEr (enc:=eI) (wr ((0:Int) - wr ((1:Int)*(2:Int)^min (w6 (wr (x0 - (1:Int)))).toNat (64:Nat))))))
 (kEr (enc:=eI) (0:Int))) h)
def Wu(x0:Int):Option Int:=
 Cj x0>>=fun v0=>if v0 then
 if(0:Int)≤w6 (wr (x0 - (1:Int))) then
 some (wr (wr ((1:Int)*(2:Int)^min (w6 (wr (x0 - (1:Int)))).toNat (64:Nat)) - (1:Int)))
 else none
 else
 some (0:Int)
theorem Tp(x0:Int)(r:Int)(h:Wu x0=some r):PU 136 [eI x0] (eI r):=
 Pu2 (hs:=[(4,.cb),(9,.s)]) ((kCb (Id x0) (kG (p:=(0:Int)≤w6 (wr (x0 - (1:Int)))) (kEr (enc:=eI) (wr (wr ((1:Int)*(2:Int)^min (w6 (wr (x0 - (1:Int)))).toNat (64:Nat)) - (1:Int)))))
 (kEr (enc:=eI) (0:Int))) h)
def No(x0:Q8)(x1:gVal):Option Bool:=
 YK x0>>=fun v0=>
 if v0==(0:Int) then
 if x1.fD==(1:Int) then
 Wv x0.fBits>>=fun v1=>
 if v1≤x1.fN then
 Wu x0.fBits>>=fun v2=>
 some (decide (x1.fN≤v2))
 else
 some false
 else
 some false
 else
 some false
theorem SI(x0:Q8)(x1:gVal)(r:Bool)(h:No x0 x1=some r):PU 112 [Qd x0,W8 x1] (eB r):=
 Pu2 (hs:=[(6,.c eI),(7,.split),(11,.split),(18,.c eI),(19,.split),(26,.c eI)]) ((kC (sh:=eI) (W3 x0) fun v0=>(kIf (c:=v0==(0:Int)) (kIf (c:=x1.fD==(1:Int)) (kC (sh:=eI) (Tq x0.fBits) fun v1=>(kIfD (p:=v1≤x1.fN) (kC (sh:=eI) (Tp x0.fBits) fun v2=>(kEr (enc:=eB) (decide (x1.fN≤v2))))
 (kEr (enc:=eB) false)))
 (kEr (enc:=eB) false))
 (kEr (enc:=eB) false))) h)
def Ns(x0:Int):Option Bool:=
 if(-2147483647:Int)≤x0 then
 some (decide (x0≤(2147483647:Int)))
 else
 some false
theorem SZ(x0:Int)(r:Bool)(h:Ns x0=some r):PU 113 [eI x0] (eB r):=
 Pu2 (hs:=[(4,.split)]) ((kIfD (p:=(-2147483647:Int)≤x0) (kEr (enc:=eB) (decide (x0≤(2147483647:Int))))
 (kEr (enc:=eB) false)) h)
def Wt(x0:Int):Option Bool:=
 if(-2147483647:Int)≤x0 then
 some (decide (x0≤(2147483647:Int)))
 else
 some false
theorem Tj(x0:Int)(r:Bool)(h:Wt x0=some r):PU 137 [eI x0] (eB r):=
 Pu2 (hs:=[(4,.split)]) ((kIfD (p:=(-2147483647:Int)≤x0) (kEr (enc:=eB) (decide (x0≤(2147483647:Int))))
 (kEr (enc:=eB) false)) h)
def Cu(x0:Int):Option Int:=
 if x0< (0:Int) then
 some (w6 ((0:Int) - w6 x0))
 else
 some (w6 x0)
theorem Et(x0:Int)(r:Int)(h:Cu x0=some r):PU 139 [eI x0] (eU64 r):=
 Pu2 (hs:=[(4,.split)]) ((kIfD (p:=x0< (0:Int)) (kEr (enc:=eU64) (w6 ((0:Int) - w6 x0)))
 (kEr (enc:=eU64) (w6 x0))) h)
def Gp(s:Unit)(u:Unit)(o:Int):List Alt:=[⟨fun(x:Int)=>x=o,.exit 0,fun x=>[.int .u64 x],fun x=>[]⟩]
def Jm(x0:Int)(x1:Int):Option Int:=
 if x1 !=(0:Int) then
 if x1≠(0:Int) then
 some (x0.tmod x1:Int)>>=fun v0=>
 Jm x1 v0
 else none
 else
 some x0
 partial_fixpoint
theorem SJ(x0:Int)(x1:Int)(o:Int)(h:Jm x0 x1=some o):LO 138 1 12 [0,1] [.int .u64 x0,.int .u64 x1] [] [0] (Gp () () o):=
 Jm.partial_correctness (fun x0 x1 o=>LO 138 1 12 [0,1] [.int .u64 x0,.int .u64 x1] [] [0] (Gp () () o))
 (fun Jm Q33 x0 x1 o h=>
 Lp2 (hs:=[(6,.split),(10,.s),(1,.n eU64 1 none)]) (kb:=[]) (kbx:=[]) ((kIf (c:=x1 !=(0:Int)) (kG (p:=x1≠(0:Int)) (kN (x0.tmod x1) rfl fun v0=>(kM0 (alts:=Gp () ()) (Q33 x1 v0))))
 (kX (alts:=Gp () ()) x0 (.here _ rfl (.refl _) (.refl _)))) h)) x0 x1 o h
def Lp(x0:Int)(x1:Int):Option Int:=
 some ()>>=fun v0=>
 Jm x0 x1>>=fun v2=>
 some v2
theorem B4(x0:Int)(x1:Int)(r:Int)(h:Lp x0 x1=some r):PU 138 [eU64 x0,eU64 x1] (eU64 r):=
 Pu2 (hs:=[(3000002,.l [] [0,1] [] [0] [] (Gp ()))]) ((kL1 () (SJ x0 x1) fun v0 v2=>(kEr (enc:=eU64) v2)) h)
def CR(x0:gVal):Option Bool:=
 if(1:Int)≤x0.fD then
 if x0.fD≤(2147483647:Int) then
 Wt x0.fN>>=fun v0=>if v0 then
 Cu x0.fN>>=fun v1=>
 Lp v1 (w6 x0.fD)>>=fun v2=>
 some (v2==(1:Int))
 else
 some false
 else
 some false
 else
 some false
theorem Az(x0:gVal)(r:Bool)(h:CR x0=some r):PU 114 [W8 x0] (eB r):=
 Pu2 (hs:=[(5,.split),(9,.split),(14,.cb),(19,.c eU64),(23,.c eU64)]) ((kIfD (p:=(1:Int)≤x0.fD) (kIfD (p:=x0.fD≤(2147483647:Int)) (kCb (Tj x0.fN) (kC (sh:=eU64) (Et x0.fN) fun v1=>(kC (sh:=eU64) (B4 v1 (w6 x0.fD)) fun v2=>(kEr (enc:=eB) (v2==(1:Int)))))
 (kEr (enc:=eB) false))
 (kEr (enc:=eB) false))
 (kEr (enc:=eB) false)) h)
def Ck(x0:Q8)(x1:gVal):Option Bool:=
 XZ x0>>=fun v0=>
 if v0 !=(0:Int) then
 some false
 else
 if x0.fKind==(2:Int) then
 No x0 x1>>=fun v1=>
 some v1
 else
 if x0.fKind==(3:Int) then
 if x1.fD==(1:Int) then
 Ns x1.fN>>=fun v2=>
 some v2
 else
 some false
 else
 CR x1>>=fun v3=>
 some v3
theorem SX(x0:Q8)(x1:gVal)(r:Bool)(h:Ck x0 x1=some r):PU 87 [Qd x0,W8 x1] (eB r):=
 Pu2 (hs:=[(6,.c eI),(7,.split),(11,.split),(14,.c eB),(16,.split),(19,.split),(23,.c eB),(26,.c eB)]) ((kC (sh:=eI) (Jz x0) fun v0=>(kIf (c:=v0 !=(0:Int)) (kEr (enc:=eB) false)
 (kIf (c:=x0.fKind==(2:Int)) (kC (sh:=eB) (SI x0 x1) fun v1=>(kEr (enc:=eB) v1))
 (kIf (c:=x0.fKind==(3:Int)) (kIf (c:=x1.fD==(1:Int)) (kC (sh:=eB) (SZ x1.fN) fun v2=>(kEr (enc:=eB) v2))
 (kEr (enc:=eB) false))
 (kC (sh:=eB) (Az x1) fun v3=>(kEr (enc:=eB) v3)))))) h)
def GF(x0:Int):Option Bool:=
 some (x0 !=x0)
theorem Mw(x0:Int)(r:Bool)(h:GF x0=some r):PU 252 [eI x0] (eB r):=
 Pu2 (hs:=[]) ((kEr (enc:=eB) (x0 !=x0)) h)
def Zs(x0:Int)(x1:Int):Option Int:=
 GF x0>>=fun v0=>
 GF x1>>=fun v1=>
 if v0 then
 if v1 then
 some (0:Int)
 else
 some (-1:Int)
 else
 if v1 then
 some (1:Int)
 else
 if x0<x1 then
 some (-1:Int)
 else
 if x1<x0 then
 some (1:Int)
 else
 some (0:Int)
theorem Xt(x0:Int)(x1:Int)(r:Int)(h:Zs x0 x1=some r):PU 205 [eI x0,eI x1] (eI r):=
 Pu2 (hs:=[(8,.c eB),(10,.c eB),(11,.split),(12,.split),(13,.split),(16,.split),(19,.split)]) ((kC (sh:=eB) (Mw x0) fun v0=>(kC (sh:=eB) (Mw x1) fun v1=>(kIf (c:=v0) (kIf (c:=v1) (kEr (enc:=eI) (0:Int))
 (kEr (enc:=eI) (-1:Int)))
 (kIf (c:=v1) (kEr (enc:=eI) (1:Int))
 (kIfD (p:=x0<x1) (kEr (enc:=eI) (-1:Int))
 (kIfD (p:=x1<x0) (kEr (enc:=eI) (1:Int))
 (kEr (enc:=eI) (0:Int)))))))) h)
def Kl(x0:Str)(x1:Str):Option Int:=
 Xh x0 x1>>=fun v0=>
 some v0
theorem Cx(x0:Str)(x1:Str)(r:Int)(h:Kl x0 x1=some r):PU 253 [eS x0,eS x1] (eI r):=
 Pu2 (hs:=[(7,.c eI)]) ((kC (sh:=eI) (UJ x0 x1) fun v0=>(kEr (enc:=eI) v0)) h)
def KY(x0:Str)(x1:Str):Option Int:=
 Kl x0 x1>>=fun v0=>
 some v0
theorem DN(x0:Str)(x1:Str)(r:Int)(h:KY x0 x1=some r):PU 206 [eS x0,eS x1] (eI r):=
 Pu2 (hs:=[(7,.c eI)]) ((kC (sh:=eI) (Cx x0 x1) fun v0=>(kEr (enc:=eI) v0)) h)
def UK(x0:Int):Option Bool:=
 some (x0 !=x0)
theorem Nz(x0:Int)(r:Bool)(h:UK x0=some r):PU 254 [eI x0] (eB r):=
 Pu2 (hs:=[]) ((kEr (enc:=eB) (x0 !=x0)) h)
def Vb(x0:Int)(x1:Int):Option Int:=
 UK x0>>=fun v0=>
 UK x1>>=fun v1=>
 if v0 then
 if v1 then
 some (0:Int)
 else
 some (-1:Int)
 else
 if v1 then
 some (1:Int)
 else
 if x0<x1 then
 some (-1:Int)
 else
 if x1<x0 then
 some (1:Int)
 else
 some (0:Int)
theorem Wr(x0:Int)(x1:Int)(r:Int)(h:Vb x0 x1=some r):PU 207 [eI x0,eI x1] (eI r):=
 Pu2 (hs:=[(8,.c eB),(10,.c eB),(11,.split),(12,.split),(13,.split),(16,.split),(19,.split)]) ((kC (sh:=eB) (Nz x0) fun v0=>(kC (sh:=eB) (Nz x1) fun v1=>(kIf (c:=v0) (kIf (c:=v1) (kEr (enc:=eI) (0:Int))
 (kEr (enc:=eI) (-1:Int)))
 (kIf (c:=v1) (kEr (enc:=eI) (1:Int))
 (kIfD (p:=x0<x1) (kEr (enc:=eI) (-1:Int))
 (kIfD (p:=x1<x0) (kEr (enc:=eI) (1:Int))
 (kEr (enc:=eI) (0:Int)))))))) h)
def VZ(s:Unit)(u:(Int× (List Int)×Int))(o:Unit ⊕ Int):List Alt:=[⟨fun(x:Unit)=>(Sum.inl x:Unit ⊕ Int)=o,.exit 0,fun x=>[.undef,ii u.1],fun x=>[]⟩,⟨fun(x:Int)=>(Sum.inr x:Unit ⊕ Int)=o,.ret,fun x=>[ii x,ii u.1],fun x=>[]⟩]
def Yi(x3:Int)(x6:List Int)(x7:Int)(x8:Int):Option (Unit ⊕ Int):=
 if x8<x7 then
 ix x6 x8>>=fun v0=>
 if v0 !=x3 then
 some (.inr v0)
 else
 Yi x3 x6 x7 (wr (x8+(1:Int)))
 else
 some (.inl ())
 partial_fixpoint
theorem R7(x3:Int)(x6:List Int)(x7:Int)(x8:Int)(o:Unit ⊕ Int)(h:Yi x3 x6 x7 x8=some o):LO 204 3 18 [3,6,7,8] [ii x3,.sl 1 (List.map eI x6),ii x7,ii x8] [] [2,3] (VZ () (x3,x6,x7) o):=
 Yi.partial_correctness x3 x6 x7 (fun x8 o=>LO 204 3 18 [3,6,7,8] [ii x3,.sl 1 (List.map eI x6),ii x7,ii x8] [] [2,3] (VZ () (x3,x6,x7) o))
 (fun Yi Q2x x8 o h=>
 Lp2 (hs:=[(9,.split),(10,.e eI),(14,.split)]) (kb:=[]) (kbx:=[]) ((kIfD (p:=x8<x7) (kIx (enc:=eI) (l:=x6) (k:=x8) fun v0=>(kIf (c:=v0 !=x3) (kX (alts:=VZ () (x3,x6,x7)) (.inr v0) (.next (.here _ rfl (.refl _) (.refl _))))
 (kM0 (alts:=VZ () (x3,x6,x7)) (Q2x (wr (x8+(1:Int)))))))
 (kX (alts:=VZ () (x3,x6,x7)) (.inl ()) (.here _ rfl (.refl _) (.refl _)))) h)) x8 o h
def GN(x0:List Int):Option Int:=
 some (List.length x0:Int)>>=fun v0=>
 some ((0:Int),x0,v0)>>=fun v1=>
 Yi (0:Int) x0 v0 (0:Int)>>=fun v2=>(match v2 with
 | (.inl v3)=>
 some v1.fst
 | (.inr v4)=>
 some v4)
theorem Iy(x0:List Int)(r:Int)(h:GN x0=some r):PU 204 [eLI x0] (eI r):=
 Pu2 (hs:=[(7,.n eI 7 none),(3000004,.l [] [3,6,7,8] [] [2,3] [] (VZ ()))]) ((kN _ (mLen (sh:=eI) x0) fun v0=>(kL2 ((0:Int),x0,v0) (hL:=(R7 (0:Int) x0 v0 (0:Int))) (hA:=fun v1 v3=>(kEr (enc:=eI) v1.fst))
 (hB:=fun v1 v4=>(kEr (enc:=eI) v4)))) h)
def GO(x0:Q8)(x1:Q8):Option Int:=
 Zs x0.fKind x1.fKind>>=fun v0=>
 Zs x0.fBits x1.fBits>>=fun v1=>
 Zs x0.fFrac x1.fFrac>>=fun v2=>
 Zs x0.fRound x1.fRound>>=fun v3=>
 Zs x0.fOver x1.fOver>>=fun v4=>
 GN [v0,v1,v2,v3,v4]>>=fun v5=>
 some v5
theorem Iz(x0:Q8)(x1:Q8)(r:Int)(h:GO x0 x1=some r):PU 208 [Qd x0,Qd x1] (eI r):=
 Pu2 (hs:=[(9,.c eI),(14,.c eI),(19,.c eI),(24,.c eI),(29,.c eI),(31,.c eI)]) ((kC (sh:=eI) (Xt x0.fKind x1.fKind) fun v0=>(kC (sh:=eI) (Xt x0.fBits x1.fBits) fun v1=>(kC (sh:=eI) (Xt x0.fFrac x1.fFrac) fun v2=>(kC (sh:=eI) (Xt x0.fRound x1.fRound) fun v3=>(kC (sh:=eI) (Xt x0.fOver x1.fOver) fun v4=>(kC (sh:=eI) (fun y hy=>Pu.le (Iy [v0,v1,v2,v3,v4] y hy) (.cons (LeT.sl (.cons (x:=AV.agg [ii v0]) (.refl _) (.cons (x:=AV.agg [ii v1]) (.refl _) (.cons (x:=AV.agg [ii v2]) (.refl _) (.cons (x:=AV.agg [ii v3]) (.refl _) (.cons (x:=AV.agg [ii v4]) (.refl _) .nil)))))) .nil) (LeT.refl _)) fun v5=>(kEr (enc:=eI) v5))))))) h)
def DP(x0:Int)(x1:Int):Option Int:=
 if x0<x1 then
 some (-1:Int)
 else
 if x1<x0 then
 some (1:Int)
 else
 some (0:Int)
theorem E9(x0:Int)(x1:Int)(r:Int)(h:DP x0 x1=some r):PU 257 [eI x0,eI x1] (eI r):=
 Pu2 (hs:=[(8,.split),(12,.split)]) ((kIfD (p:=x0<x1) (kEr (enc:=eI) (-1:Int))
 (kIfD (p:=x1<x0) (kEr (enc:=eI) (1:Int))
 (kEr (enc:=eI) (0:Int)))) h)
def Mu(x0:Zp)(x1:Zp):Option Int:=
 if !x0.fName==x1.fName then
 KY x0.fName x1.fName>>=fun v0=>
 some v0
 else
 DP x0.fBy x1.fBy>>=fun v1=>
 some v1
theorem Rc(x0:Zp)(x1:Zp)(r:Int)(h:Mu x0 x1=some r):PU 256 [Qp x0,Qp x1] (eI r):=
 Pu2 (hs:=[(9,.split),(14,.c eI),(19,.c eI)]) ((kIf (c:= !x0.fName==x1.fName) (kC (sh:=eI) (DN x0.fName x1.fName) fun v0=>(kEr (enc:=eI) v0))
 (kC (sh:=eI) (E9 x0.fBy x1.fBy) fun v1=>(kEr (enc:=eI) v1))) h)
def QI(s:((List Zp)× (List Zp)))(u:((List Zp)×Int))(o:Unit ⊕ Int):List Alt:=[⟨fun(x:Unit)=>(Sum.inl x:Unit ⊕ Int)=o,.exit 0,fun x=>[.sl 2 (List.map Qp s.1),.sl 2 (List.map Qp s.2),.undef],fun x=>[]⟩,⟨fun(x:Int)=>(Sum.inr x:Unit ⊕ Int)=o,.ret,fun x=>[.sl 2 (List.map Qp s.1),.sl 2 (List.map Qp s.2),ii x],fun x=>[]⟩]
def QJ(x1:List Zp)(a4:List Zp)(a5:Int)(a3:Int):Option (Unit ⊕ Int):=
 if a3<a5 then
 ix a4 a3>>=fun v0=>
 some (List.length x1:Int)>>=fun v1=>
 if v1≤a3 then
 some (.inr (1:Int))
 else
 ix x1 a3>>=fun v2=>
 Mu v0 v2>>=fun v3=>
 if v3 !=(0:Int) then
 some (.inr v3)
 else
 QJ x1 a4 a5 (wr (a3+(1:Int)))
 else
 some (.inl ())
 partial_fixpoint
theorem GL(x0:List Zp)(x1:List Zp)(a3:List Zp)(a4:Int)(a5:Int)(o:Unit ⊕ Int)(h:QJ x1 a3 a4 a5=some o):LO 255 2 39 [0,1,2,11,12,13] [.sl 2 (List.map Qp x0),.sl 2 (List.map Qp x1),.fn 256 [],.sl 2 (List.map Qp a3),ii a4,ii a5] [] [0,1,6] (QI (x0,x1) (a3,a4) o):=
 QJ.partial_correctness x1 a3 a4 (fun a5 o=>∀(x0:List Zp),LO 255 2 39 [0,1,2,11,12,13] [.sl 2 (List.map Qp x0),.sl 2 (List.map Qp x1),.fn 256 [],.sl 2 (List.map Qp a3),ii a4,ii a5] [] [0,1,6] (QI (x0,x1) (a3,a4) o))
 (fun QJ Q4v a5 o h x0=>
 Lp2 (hs:=[(14,.split),(16,.e Qp),(20,.n eI 20 none),(21,.split),(24,.e Qp),(29,.c eI),(31,.split)]) (kb:=[]) (kbx:=[]) ((kIfD (p:=a5<a4) (kIx (enc:=Qp) (l:=a3) (k:=a5) fun v0=>(kN _ (mLen (sh:=Qp) x1) fun v1=>(kIfD (p:=v1≤a5) (kX (alts:=QI (x0,x1) (a3,a4)) (.inr (1:Int)) (.next (.here _ rfl (.refl _) (.refl _))))
 (kIx (enc:=Qp) (l:=x1) (k:=a5) fun v2=>(kC (sh:=eI) (Rc v0 v2) fun v3=>(kIf (c:=v3 !=(0:Int)) (kX (alts:=QI (x0,x1) (a3,a4)) (.inr v3) (.next (.here _ rfl (.refl _) (.refl _))))
 (kM0 (alts:=QI (x0,x1) (a3,a4)) (fun y hy=>Q4v (wr (a5+(1:Int))) y hy x0))))))))
 (kX (alts:=QI (x0,x1) (a3,a4)) (.inl ()) (.here _ rfl (.refl _) (.refl _)))) h)) a5 o h x0
def YS(x0:List Zp)(x1:List Zp):Option Int:=
 some (List.length x0:Int)>>=fun v0=>
 some (x0,v0)>>=fun v1=>
 QJ x1 x0 v0 (0:Int)>>=fun v2=>(match v2 with
 | (.inl v3)=>
 some (List.length x0:Int)>>=fun v4=>
 some (List.length x1:Int)>>=fun v5=>
 if v4<v5 then
 some (-1:Int)
 else
 some (0:Int)
 | (.inr v6)=>
 some v6)
theorem DK(x0:List Zp)(x1:List Zp)(r:Int)(h:YS x0 x1=some r):PU 255 [Hs x0,Hs x1,.fn 256 []] (eI r):=
 Pu2 (hs:=[(12,.n eI 12 none),(35,.n eI 35 none),(37,.n eI 37 none),(38,.split),(3000003,.l [] [0,1,2,11,12,13] [] [0,1,6] [] (QI (x0,x1)))]) ((kN _ (mLen (sh:=Qp) x0) fun v0=>(kL2 (x0,v0) (hL:=(GL x0 x1 x0 v0 (0:Int))) (hA:=fun v1 v3=>(kN _ (mLen (sh:=Qp) x0) fun v4=>(kN _ (mLen (sh:=Qp) x1) fun v5=>(kIfD (p:=v4<v5) (kEr (enc:=eI) (-1:Int))
 (kEr (enc:=eI) (0:Int))))))
 (hB:=fun v1 v6=>(kEr (enc:=eI) v6)))) h)
def Ud(x0:gLin)(x1:gLin):Option Int:=
 YS x0.fL x1.fL>>=fun v0=>
 if v0 !=(0:Int) then
 some v0
 else
 DP x0.fK x1.fK>>=fun v1=>
 some v1
theorem Nu(x0:gLin)(x1:gLin)(r:Int)(h:Ud x0 x1=some r):PU 209 [Qh x0,Qh x1] (eI r):=
 Pu2 (hs:=[(10,.c eI),(12,.split),(18,.c eI)]) ((kC (sh:=eI) (DK x0.fL x1.fL) fun v0=>(kIf (c:=v0 !=(0:Int)) (kEr (enc:=eI) v0)
 (kC (sh:=eI) (E9 x0.fK x1.fK) fun v1=>(kEr (enc:=eI) v1)))) h)
def QO(s:((List gLin)× (List gLin)))(u:((List gLin)×Int))(o:Unit ⊕ Int):List Alt:=[⟨fun(x:Unit)=>(Sum.inl x:Unit ⊕ Int)=o,.exit 0,fun x=>[.sl 2 (List.map Qh s.1),.sl 2 (List.map Qh s.2),.undef],fun x=>[]⟩,⟨fun(x:Int)=>(Sum.inr x:Unit ⊕ Int)=o,.ret,fun x=>[.sl 2 (List.map Qh s.1),.sl 2 (List.map Qh s.2),ii x],fun x=>[]⟩]
def Zu(x1:List gLin)(a4:List gLin)(a5:Int)(a3:Int):Option (Unit ⊕ Int):=
 if a3<a5 then
 ix a4 a3>>=fun v0=>
 some (List.length x1:Int)>>=fun v1=>
 if v1≤a3 then
 some (.inr (1:Int))
 else
 ix x1 a3>>=fun v2=>
 Ud v0 v2>>=fun v3=>
 if v3 !=(0:Int) then
 some (.inr v3)
 else
 Zu x1 a4 a5 (wr (a3+(1:Int)))
 else
 some (.inl ())
 partial_fixpoint
theorem GQ(x0:List gLin)(x1:List gLin)(a3:List gLin)(a4:Int)(a5:Int)(o:Unit ⊕ Int)(h:Zu x1 a3 a4 a5=some o):LO 276 2 39 [0,1,2,11,12,13] [.sl 2 (List.map Qh x0),.sl 2 (List.map Qh x1),.fn 209 [],.sl 2 (List.map Qh a3),ii a4,ii a5] [] [0,1,6] (QO (x0,x1) (a3,a4) o):=
 Zu.partial_correctness x1 a3 a4 (fun a5 o=>∀(x0:List gLin),LO 276 2 39 [0,1,2,11,12,13] [.sl 2 (List.map Qh x0),.sl 2 (List.map Qh x1),.fn 209 [],.sl 2 (List.map Qh a3),ii a4,ii a5] [] [0,1,6] (QO (x0,x1) (a3,a4) o))
 (fun Zu Q4u a5 o h x0=>
 Lp2 (hs:=[(14,.split),(16,.e Qh),(20,.n eI 20 none),(21,.split),(24,.e Qh),(29,.c eI),(31,.split)]) (kb:=[]) (kbx:=[]) ((kIfD (p:=a5<a4) (kIx (enc:=Qh) (l:=a3) (k:=a5) fun v0=>(kN _ (mLen (sh:=Qh) x1) fun v1=>(kIfD (p:=v1≤a5) (kX (alts:=QO (x0,x1) (a3,a4)) (.inr (1:Int)) (.next (.here _ rfl (.refl _) (.refl _))))
 (kIx (enc:=Qh) (l:=x1) (k:=a5) fun v2=>(kC (sh:=eI) (Nu v0 v2) fun v3=>(kIf (c:=v3 !=(0:Int)) (kX (alts:=QO (x0,x1) (a3,a4)) (.inr v3) (.next (.here _ rfl (.refl _) (.refl _))))
 (kM0 (alts:=QO (x0,x1) (a3,a4)) (fun y hy=>Q4u (wr (a5+(1:Int))) y hy x0))))))))
 (kX (alts:=QO (x0,x1) (a3,a4)) (.inl ()) (.here _ rfl (.refl _) (.refl _)))) h)) a5 o h x0
def JI(x0:List gLin)(x1:List gLin):Option Int:=
 some (List.length x0:Int)>>=fun v0=>
 some (x0,v0)>>=fun v1=>
 Zu x1 x0 v0 (0:Int)>>=fun v2=>(match v2 with
 | (.inl v3)=>
 some (List.length x0:Int)>>=fun v4=>
 some (List.length x1:Int)>>=fun v5=>
 if v4<v5 then
 some (-1:Int)
 else
 some (0:Int)
 | (.inr v6)=>
 some v6)
theorem DR(x0:List gLin)(x1:List gLin)(r:Int)(h:JI x0 x1=some r):PU 276 [G4 x0,G4 x1,.fn 209 []] (eI r):=
 Pu2 (hs:=[(12,.n eI 12 none),(35,.n eI 35 none),(37,.n eI 37 none),(38,.split),(3000003,.l [] [0,1,2,11,12,13] [] [0,1,6] [] (QO (x0,x1)))]) ((kN _ (mLen (sh:=Qh) x0) fun v0=>(kL2 (x0,v0) (hL:=(GQ x0 x1 x0 v0 (0:Int))) (hA:=fun v1 v3=>(kN _ (mLen (sh:=Qh) x0) fun v4=>(kN _ (mLen (sh:=Qh) x1) fun v5=>(kIfD (p:=v4<v5) (kEr (enc:=eI) (-1:Int))
 (kEr (enc:=eI) (0:Int))))))
 (hB:=fun v1 v6=>(kEr (enc:=eI) v6)))) h)
def JZ(x0:List gLin)(x1:List gLin):Option Int:=
 some (List.length x0:Int)>>=fun v0=>
 some (List.length x1:Int)>>=fun v1=>
 Zs v0 v1>>=fun v2=>
 if v2 !=(0:Int) then
 some v2
 else
 JI x0 x1>>=fun v3=>
 some v3
theorem Cw(x0:List gLin)(x1:List gLin)(r:Int)(h:JZ x0 x1=some r):PU 259 [G4 x0,G4 x1,.fn 209 []] (eI r):=
 Pu2 (hs:=[(9,.n eI 9 none),(11,.n eI 11 none),(12,.c eI),(14,.split),(19,.c eI)]) ((kN _ (mLen (sh:=Qh) x0) fun v0=>(kN _ (mLen (sh:=Qh) x1) fun v1=>(kC (sh:=eI) (Xt v0 v1) fun v2=>(kIf (c:=v2 !=(0:Int)) (kEr (enc:=eI) v2)
 (kC (sh:=eI) (DR x0 x1) fun v3=>(kEr (enc:=eI) v3)))))) h)
def Wq(x0:Qf)(x1:Qf):Option Int:=
 KY x0.fFrom x1.fFrom>>=fun v0=>
 if v0 !=(0:Int) then
 some v0
 else
 Ud x0.fLin x1.fLin>>=fun v1=>
 if v1 !=(0:Int) then
 some v1
 else
 JZ x0.fAt x1.fAt>>=fun v2=>
 some v2
theorem Ii(x0:Qf)(x1:Qf)(r:Int)(h:Wq x0 x1=some r):PU 211 [Q4 x0,Q4 x1] (eI r):=
 Pu2 (hs:=[(11,.c eI),(13,.split),(19,.c eI),(21,.split),(27,.c eI)]) ((kC (sh:=eI) (DN x0.fFrom x1.fFrom) fun v0=>(kIf (c:=v0 !=(0:Int)) (kEr (enc:=eI) v0)
 (kC (sh:=eI) (Nu x0.fLin x1.fLin) fun v1=>(kIf (c:=v1 !=(0:Int)) (kEr (enc:=eI) v1)
 (kC (sh:=eI) (Cw x0.fAt x1.fAt) fun v2=>(kEr (enc:=eI) v2)))))) h)
def QD(s:((List Qf)× (List Qf)))(u:((List Qf)×Int))(o:Unit ⊕ Int):List Alt:=[⟨fun(x:Unit)=>(Sum.inl x:Unit ⊕ Int)=o,.exit 0,fun x=>[.sl 4 (List.map Q4 s.1),.sl 4 (List.map Q4 s.2),.undef],fun x=>[]⟩,⟨fun(x:Int)=>(Sum.inr x:Unit ⊕ Int)=o,.ret,fun x=>[.sl 4 (List.map Q4 s.1),.sl 4 (List.map Q4 s.2),ii x],fun x=>[]⟩]
def Z3(x1:List Qf)(a4:List Qf)(a5:Int)(a3:Int):Option (Unit ⊕ Int):=
 if a3<a5 then
 ix a4 a3>>=fun v0=>
 some (List.length x1:Int)>>=fun v1=>
 if v1≤a3 then
 some (.inr (1:Int))
 else
 ix x1 a3>>=fun v2=>
 Wq v0 v2>>=fun v3=>
 if v3 !=(0:Int) then
 some (.inr v3)
 else
 Z3 x1 a4 a5 (wr (a3+(1:Int)))
 else
 some (.inl ())
 partial_fixpoint
theorem GC(x0:List Qf)(x1:List Qf)(a3:List Qf)(a4:Int)(a5:Int)(o:Unit ⊕ Int)(h:Z3 x1 a3 a4 a5=some o):LO 258 2 39 [0,1,2,11,12,13] [.sl 4 (List.map Q4 x0),.sl 4 (List.map Q4 x1),.fn 211 [],.sl 4 (List.map Q4 a3),ii a4,ii a5] [] [0,1,6] (QD (x0,x1) (a3,a4) o):=
 Z3.partial_correctness x1 a3 a4 (fun a5 o=>∀(x0:List Qf),LO 258 2 39 [0,1,2,11,12,13] [.sl 4 (List.map Q4 x0),.sl 4 (List.map Q4 x1),.fn 211 [],.sl 4 (List.map Q4 a3),ii a4,ii a5] [] [0,1,6] (QD (x0,x1) (a3,a4) o))
 (fun Z3 Q4t a5 o h x0=>
 Lp2 (hs:=[(14,.split),(16,.e Q4),(20,.n eI 20 none),(21,.split),(24,.e Q4),(29,.c eI),(31,.split)]) (kb:=[]) (kbx:=[]) ((kIfD (p:=a5<a4) (kIx (enc:=Q4) (l:=a3) (k:=a5) fun v0=>(kN _ (mLen (sh:=Q4) x1) fun v1=>(kIfD (p:=v1≤a5) (kX (alts:=QD (x0,x1) (a3,a4)) (.inr (1:Int)) (.next (.here _ rfl (.refl _) (.refl _))))
 (kIx (enc:=Q4) (l:=x1) (k:=a5) fun v2=>(kC (sh:=eI) (Ii v0 v2) fun v3=>(kIf (c:=v3 !=(0:Int)) (kX (alts:=QD (x0,x1) (a3,a4)) (.inr v3) (.next (.here _ rfl (.refl _) (.refl _))))
 (kM0 (alts:=QD (x0,x1) (a3,a4)) (fun y hy=>Q4t (wr (a5+(1:Int))) y hy x0))))))))
 (kX (alts:=QD (x0,x1) (a3,a4)) (.inl ()) (.here _ rfl (.refl _) (.refl _)))) h)) a5 o h x0
def YN(x0:List Qf)(x1:List Qf):Option Int:=
 some (List.length x0:Int)>>=fun v0=>
 some (x0,v0)>>=fun v1=>
 Z3 x1 x0 v0 (0:Int)>>=fun v2=>(match v2 with
 | (.inl v3)=>
 some (List.length x0:Int)>>=fun v4=>
 some (List.length x1:Int)>>=fun v5=>
 if v4<v5 then
 some (-1:Int)
 else
 some (0:Int)
 | (.inr v6)=>
 some v6)
theorem Dm(x0:List Qf)(x1:List Qf)(r:Int)(h:YN x0 x1=some r):PU 258 [Kn x0,Kn x1,.fn 211 []] (eI r):=
 Pu2 (hs:=[(12,.n eI 12 none),(35,.n eI 35 none),(37,.n eI 37 none),(38,.split),(3000003,.l [] [0,1,2,11,12,13] [] [0,1,6] [] (QD (x0,x1)))]) ((kN _ (mLen (sh:=Q4) x0) fun v0=>(kL2 (x0,v0) (hL:=(GC x0 x1 x0 v0 (0:Int))) (hA:=fun v1 v3=>(kN _ (mLen (sh:=Q4) x0) fun v4=>(kN _ (mLen (sh:=Q4) x1) fun v5=>(kIfD (p:=v4<v5) (kEr (enc:=eI) (-1:Int))
 (kEr (enc:=eI) (0:Int))))))
 (hB:=fun v1 v6=>(kEr (enc:=eI) v6)))) h)
def Xl(x0:List Qf)(x1:List Qf):Option Int:=
 some (List.length x0:Int)>>=fun v0=>
 some (List.length x1:Int)>>=fun v1=>
 Zs v0 v1>>=fun v2=>
 if v2 !=(0:Int) then
 some v2
 else
 YN x0 x1>>=fun v3=>
 some v3
theorem DJ(x0:List Qf)(x1:List Qf)(r:Int)(h:Xl x0 x1=some r):PU 210 [Kn x0,Kn x1,.fn 211 []] (eI r):=
 Pu2 (hs:=[(9,.n eI 9 none),(11,.n eI 11 none),(12,.c eI),(14,.split),(19,.c eI)]) ((kN _ (mLen (sh:=Q4) x0) fun v0=>(kN _ (mLen (sh:=Q4) x1) fun v1=>(kC (sh:=eI) (Xt v0 v1) fun v2=>(kIf (c:=v2 !=(0:Int)) (kEr (enc:=eI) v2)
 (kC (sh:=eI) (Dm x0 x1) fun v3=>(kEr (enc:=eI) v3)))))) h)
def QH(s:((List Q6)× (List Q6)))(u:((List Q6)×Int))(o:Unit ⊕ Int):List Alt:=[⟨fun(x:Unit)=>(Sum.inl x:Unit ⊕ Int)=o,.exit 0,fun x=>[.sl 13 (List.map Qo s.1),.sl 13 (List.map Qo s.2),.undef],fun x=>[]⟩,⟨fun(x:Int)=>(Sum.inr x:Unit ⊕ Int)=o,.ret,fun x=>[.sl 13 (List.map Qo s.1),.sl 13 (List.map Qo s.2),ii x],fun x=>[]⟩]
mutual
def Vn(x0:Q0)(x1:Q0):Option Int:=
 Zs x0.fOp x1.fOp>>=fun v0=>
 KY x0.fName x1.fName>>=fun v1=>
 Vb x0.fVal.fN x1.fVal.fN>>=fun v2=>
 Vb x0.fVal.fD x1.fVal.fD>>=fun v3=>
 GO x0.fType x1.fType>>=fun v4=>
 Ud x0.fLin x1.fLin>>=fun v5=>
 GN [v0,v1,v2,v3,v4,v5]>>=fun v6=>
 if v6 !=(0:Int) then
 some v6
 else
 Xl x0.fIdx x1.fIdx>>=fun v7=>
 if v7 !=(0:Int) then
 some v7
 else
 ZK x0.fArgs x1.fArgs>>=fun v8=>
 some v8
 partial_fixpoint
def ZK(x0:List Q6)(x1:List Q6):Option Int:=
 some (List.length x0:Int)>>=fun v0=>
 some (List.length x1:Int)>>=fun v1=>
 Zs v0 v1>>=fun v2=>
 if v2 !=(0:Int) then
 some v2
 else
 Xr x0 x1>>=fun v3=>
 some v3
 partial_fixpoint
def Xr(x0:List Q6)(x1:List Q6):Option Int:=
 some (List.length x0:Int)>>=fun v0=>
 some (x0,v0)>>=fun v1=>
 Z8 x1 x0 v0 (0:Int)>>=fun v2=>(match v2 with
 | (.inl v3)=>
 some (List.length x0:Int)>>=fun v4=>
 some (List.length x1:Int)>>=fun v5=>
 if v4<v5 then
 some (-1:Int)
 else
 some (0:Int)
 | (.inr v6)=>
 some v6)
 partial_fixpoint
def Z8(x1:List Q6)(a4:List Q6)(a5:Int)(a3:Int):Option (Unit ⊕ Int):=
 if a3<a5 then
 Option.map Q6.f (ix a4 a3)>>=fun v0=>
 some (List.length x1:Int)>>=fun v1=>
 if v1≤a3 then
 some (.inr (1:Int))
 else
 Option.map Q6.f (ix x1 a3)>>=fun v2=>
 Vn v0 v2>>=fun v3=>
 if v3 !=(0:Int) then
 some (.inr v3)
 else
 Z8 x1 a4 a5 (wr (a3+(1:Int)))
 else
 some (.inl ())
 partial_fixpoint
end
theorem R2:(∀(x0:Q0) (x1:Q0) (r:Int),Vn x0 x1=some r→PU 174 [Q2 x0,Q2 x1] (eI r))∧(∀(x0:List Q6) (x1:List Q6) (r:Int),ZK x0 x1=some r→PU 212 [Yw x0,Yw x1,.fn 174 []] (eI r))∧(∀(x0:List Q6) (x1:List Q6) (r:Int),Xr x0 x1=some r→PU 260 [Yw x0,Yw x1,.fn 174 []] (eI r))∧(∀(x1:List Q6) (a5:List Q6) (a6:Int) (a7:Int) (o:Unit ⊕ Int),Z8 x1 a5 a6 a7=some o→∀(x0:List Q6),LO 260 2 39 [0,1,2,11,12,13] [.sl 13 (List.map Qo x0),.sl 13 (List.map Qo x1),.fn 174 [],.sl 13 (List.map Qo a5),ii a6,ii a7] [] [0,1,6] (QH (x0,x1) (a5,a6) o)):=
 Vn.mutual_partial_correctness (fun x0 x1 r=>PU 174 [Q2 x0,Q2 x1] (eI r)) (fun x0 x1 r=>PU 212 [Yw x0,Yw x1,.fn 174 []] (eI r)) (fun x0 x1 r=>PU 260 [Yw x0,Yw x1,.fn 174 []] (eI r)) (fun x1 a5 a6 a7 o=>∀(x0:List Q6),LO 260 2 39 [0,1,2,11,12,13] [.sl 13 (List.map Qo x0),.sl 13 (List.map Qo x1),.fn 174 [],.sl 13 (List.map Qo a5),ii a6,ii a7] [] [0,1,6] (QH (x0,x1) (a5,a6) o))
 (fun ZK Q2z x0 x1 r h=>
 Pu2 (hs:=[(11,.c eI),(16,.c eI),(23,.c eI),(30,.c eI),(35,.c eI),(40,.c eI),(42,.c eI),(44,.split),(50,.c eI),(52,.split),(58,.c eI)]) ((kC (sh:=eI) (Xt x0.fOp x1.fOp) fun v0=>(kC (sh:=eI) (DN x0.fName x1.fName) fun v1=>(kC (sh:=eI) (Wr x0.fVal.fN x1.fVal.fN) fun v2=>(kC (sh:=eI) (Wr x0.fVal.fD x1.fVal.fD) fun v3=>(kC (sh:=eI) (Iz x0.fType x1.fType) fun v4=>(kC (sh:=eI) (Nu x0.fLin x1.fLin) fun v5=>(kC (sh:=eI) (fun y hy=>Pu.le (Iy [v0,v1,v2,v3,v4,v5] y hy) (.cons (LeT.sl (.cons (x:=AV.agg [ii v0]) (.refl _) (.cons (x:=AV.agg [ii v1]) (.refl _) (.cons (x:=AV.agg [ii v2]) (.refl _) (.cons (x:=AV.agg [ii v3]) (.refl _) (.cons (x:=AV.agg [ii v4]) (.refl _) (.cons (x:=AV.agg [ii v5]) (.refl _) .nil))))))) .nil) (LeT.refl _)) fun v6=>(kIf (c:=v6 !=(0:Int)) (kEr (enc:=eI) v6)
 (kC (sh:=eI) (DJ x0.fIdx x1.fIdx) fun v7=>(kIf (c:=v7 !=(0:Int)) (kEr (enc:=eI) v7)
 (kC (sh:=eI) (Q2z x0.fArgs x1.fArgs) fun v8=>(kEr (enc:=eI) v8)))))))))))) h))
 (fun Xr Q4r x0 x1 r h=>
 Pu2 (hs:=[(9,.n eI 9 none),(11,.n eI 11 none),(12,.c eI),(14,.split),(19,.c eI)]) ((kN _ (mLen (sh:=Qo) x0) fun v0=>(kN _ (mLen (sh:=Qo) x1) fun v1=>(kC (sh:=eI) (Xt v0 v1) fun v2=>(kIf (c:=v2 !=(0:Int)) (kEr (enc:=eI) v2)
 (kC (sh:=eI) (Q4r x0 x1) fun v3=>(kEr (enc:=eI) v3)))))) h))
 (fun Z8 Q4s x0 x1 r h=>
 Pu2 (hs:=[(12,.n eI 12 none),(35,.n eI 35 none),(37,.n eI 37 none),(38,.split),(3000003,.l [] [0,1,2,11,12,13] [] [0,1,6] [] (QH (x0,x1)))]) ((kN _ (mLen (sh:=Qo) x0) fun v0=>(kL2 (x0,v0) (hL:=(fun y hy=>Q4s x1 x0 v0 (0:Int) y hy x0)) (hA:=fun v1 v3=>(kN _ (mLen (sh:=Qo) x0) fun v4=>(kN _ (mLen (sh:=Qo) x1) fun v5=>(kIfD (p:=v4<v5) (kEr (enc:=eI) (-1:Int))
 (kEr (enc:=eI) (0:Int))))))
 (hB:=fun v1 v6=>(kEr (enc:=eI) v6)))) h))
 (fun Vn Z8 Q2y Q4s x1 a5 a6 a7 o h x0=>
 Lp2 (hs:=[(14,.split),(16,.e Q2),(20,.n eI 20 none),(21,.split),(24,.e Q2),(29,.c eI),(31,.split)]) (kb:=[]) (kbx:=[]) ((kIfD (p:=a7<a6) (kIxR (l:=a5) (k:=a7) XD fun v0=>(kN _ (mLen (sh:=Qo) x1) fun v1=>(kIfD (p:=v1≤a7) (kX (alts:=QH (x0,x1) (a5,a6)) (.inr (1:Int)) (.next (.here _ rfl (.refl _) (.refl _))))
 (kIxR (l:=x1) (k:=a7) XD fun v2=>(kC (sh:=eI) (Q2y v0 v2) fun v3=>(kIf (c:=v3 !=(0:Int)) (kX (alts:=QH (x0,x1) (a5,a6)) (.inr v3) (.next (.here _ rfl (.refl _) (.refl _))))
 (kM0 (alts:=QH (x0,x1) (a5,a6)) (fun y hy=>Q4s x1 a5 a6 (wr (a7+(1:Int))) y hy x0))))))))
 (kX (alts:=QH (x0,x1) (a5,a6)) (.inl ()) (.here _ rfl (.refl _) (.refl _)))) h))
theorem Th(x0:Q0)(x1:Q0)(r:Int)(h:Vn x0 x1=some r):PU 174 [Q2 x0,Q2 x1] (eI r):=(R2).1 x0 x1 r h
def ML(x0:Q0)(x1:Q0):Option Bool:=
 Vn x0 x1>>=fun v0=>
 some (v0==(0:Int))
theorem Pq(x0:Q0)(x1:Q0)(r:Bool)(h:ML x0 x1=some r):PU 142 [Q2 x0,Q2 x1] (eB r):=
 Pu2 (hs:=[(7,.c eI)]) ((kC (sh:=eI) (Th x0 x1) fun v0=>(kEr (enc:=eB) (v0==(0:Int)))) h)
def UM(x0:Q0):Option Bool:=
 some ((Ka.mk (0:Int) [] (gVal.mk (0:Int) (0:Int)) (Q8.mk (0:Int) (0:Int) (0:Int) (0:Int) (0:Int)) (gLin.mk (0:Int) []) [] []:Q0))>>=fun v0=>
 ML x0 v0>>=fun v1=>
 some v1
theorem HW(x0:Q0)(r:Bool)(h:UM x0=some r):PU 119 [Q2 x0] (eB r):=
 Pu2 (hs:=[(4,.n Q2 4 none),(5,.c eB)]) ((kW (sh:=Q2) (Ka.mk (0:Int) [] (gVal.mk (0:Int) (0:Int)) (Q8.mk (0:Int) (0:Int) (0:Int) (0:Int) (0:Int)) (gLin.mk (0:Int) []) [] []:Q0) (LeV.agg (.cons (LeV.refl (ii (0:Int))) (.cons (LeV.refl (AV.str [])) (.cons (LeV.refl (ii (0:Int))) (.cons (LeV.refl (ii (0:Int))) (.cons (LeV.refl (ii (0:Int))) (.cons (LeV.refl (ii (0:Int))) (.cons (LeV.refl (ii (0:Int))) (.cons (LeV.refl (ii (0:Int))) (.cons (LeV.refl (ii (0:Int))) (.cons (LeV.refl (ii (0:Int))) (.cons (LeV.nil 2) (.cons (LeV.nil 4) (.cons (LeV.nil 13) .nil)))))))))))))) fun v0=>(kC (sh:=eB) (Pq x0 v0) fun v1=>(kEr (enc:=eB) v1))) h)
def Jk(s:Qq)(u:Unit)(o:(Bool×Bool×Bool)):List Alt:=[⟨fun(x:(Bool×Bool×Bool))=>x=o,.normal,fun x=>[.ptr 0 0 0,.bool (x.1),.bool (x.2.1),.bool (x.2.2)],fun x=>[.cells 0 (Qv s).cells]⟩]
def Y0(s:Qq)(u:(Bool×Bool×Bool))(o:Bool):List Alt:=jb o (fun b=>[.ptr 0 0 0,.bool (u.1),.bool (u.2.1),.bool (u.2.2),.bool b]) [.cells 0 (Qv s).cells]
def Ke(s:Qq)(u:(Bool×Bool))(o:Bool):List Alt:=jb o (fun b=>[.ptr 0 0 0,.bool (u.1),.bool (u.2),.bool b]) [.cells 0 (Qv s).cells]
def Y1(s:Qq)(u:(Bool×Bool))(o:Bool):List Alt:=jb o (fun b=>[.ptr 0 0 0,.bool (u.1),.bool (u.2),.bool b]) [.cells 0 (Qv s).cells]
def Kf(s:Qq)(u:(Bool×Bool))(o:Bool):List Alt:=jb o (fun b=>[.ptr 0 0 0,.bool (u.1),.bool (u.2),.bool b]) [.cells 0 (Qv s).cells]
def Kg(s:Qq)(u:(Bool×Bool))(o:Bool):List Alt:=jb o (fun b=>[.ptr 0 0 0,.bool (u.1),.bool (u.2),.bool b]) [.cells 0 (Qv s).cells]
def Kh(s:Qq)(u:Bool)(o:Bool):List Alt:=jb o (fun b=>[.ptr 0 0 0,.bool u,.bool b]) [.cells 0 (Qv s).cells]
def UN(x0:Qq):Option Bool:=
 some ()>>=fun v0=>
 (if x0.fOp==(2:Int) then
 some ((x0.fOp==(1:Int)),true,(x0.fOp==(4:Int)))
 else
 some ((x0.fOp==(1:Int)),(x0.fOp==(3:Int)),(x0.fOp==(4:Int))))>>=fun v2=>
 some (v2.fst,v2.snd.fst,v2.snd.snd)>>=fun v3=>
 (if v2.fst then
 some false
 else
 if v2.snd.fst then
 some false
 else
 if v2.snd.snd then
 some false
 else
 some true)>>=fun v4=>if v4 then
 some false
 else
 some (v3.fst,v3.snd.fst)>>=fun v7=>
 (if v3.snd.snd then
 if !x0.fName==[] then
 some true
 else
 some false
 else
 some false)>>=fun v8=>if v8 then
 some false
 else
 some (v7.fst,v7.snd)>>=fun a6=>
 (if v7.fst then
 some false
 else
 if x0.fMany !=(0:Int) then
 some true
 else
 if x0.fMark !=(0:Int) then
 some true
 else
 some false)>>=fun a8=>if a8 then
 some false
 else
 some (a6.fst,a6.snd)>>=fun a4=>
 (if x0.fOp !=(3:Int) then
 if x0.fFold !=(0:Int) then
 some true
 else
 some false
 else
 some false)>>=fun a9=>if a9 then
 some false
 else
 some (a4.fst,a4.snd)>>=fun a7=>
 (if a4.snd then
 some false
 else
 some (List.length x0.fIdx:Int)>>=fun ab=>
 if(0:Int)<ab then
 some true
 else
 some false)>>=fun aa=>if aa then
 some false
 else
 some a7.snd>>=fun ac=>
 (if a7.fst then
 UM x0.fExpr>>=fun ae=>if ae then
 some false
 else
 some true
 else
 some false)>>=fun ad=>if ad then
 some false
 else
 if ac then
 some (List.length x0.fBody:Int)>>=fun af=>
 some (af==(0:Int))
 else
 some true
theorem HX(x0:Qq)(r:Bool)(h:UN x0=some r):PU 96 [Qv x0] (eB r):=
 Pu2 (hs:=[(11,.split),(21,.split),(24,.split),(28,.split),(32,.split),(36,.split),(39,.split),(44,.split),(48,.split),(54,.split),(58,.split),(61,.split),(66,.n eI 66 none),(67,.split),(70,.split),(74,.cb),(77,.split),(82,.n eI 82 none),(5000001,.l [] [] [] [1,3,4,5] [kk 1] (Jk x0)),(5000002,.l [] [] [] [1,3,4,5,20] [kk 1] (Y0 x0)),(5000004,.l [] [] [] [1,3,4,31] [kk 1] (Ke x0)),(5000006,.l [] [] [] [1,3,4,38] [kk 1] (Y1 x0)),(5000008,.l [] [] [] [1,3,4,51] [kk 1] (Kf x0)),(5000010,.l [] [] [] [1,3,4,60] [kk 1] (Kg x0)),(5000012,.l [] [] [] [1,4,69] [kk 1] (Kh x0))]) ((kJ1 (id:=5000001) () (fun v0 af v1=>(kIf (c:=x0.fOp==(2:Int)) (kXj (alts:=Jk x0) af ((x0.fOp==(1:Int)),true,(x0.fOp==(4:Int))) (.here _ rfl (.refl _) (.refl _)))
 (kXj (alts:=Jk x0) af ((x0.fOp==(1:Int)),(x0.fOp==(3:Int)),(x0.fOp==(4:Int))) (.here _ rfl (.refl _) (.refl _)))))
 (fun v0 v2=>(kJb (id:=5000002) (v2.fst,v2.snd.fst,v2.snd.snd) (fun v3 a9 v4=>(kIf (c:=v2.fst) (kXj (alts:=Y0 x0) a9 false (.next (.here () rfl (.refl _) (.refl _))))
 (kIf (c:=v2.snd.fst) (kXj (alts:=Y0 x0) a9 false (.next (.here () rfl (.refl _) (.refl _))))
 (kIf (c:=v2.snd.snd) (kXj (alts:=Y0 x0) a9 false (.next (.here () rfl (.refl _) (.refl _))))
 (kXj (alts:=Y0 x0) a9 true (.here () rfl (.refl _) (.refl _)))))))
 (fun v3=>(kEr (enc:=eB) false))
 (fun v3=>(kJb (id:=5000004) (v3.fst,v3.snd.fst) (fun v7 ac v8=>(kIf (c:=v3.snd.snd) (kIf (c:= !x0.fName==[]) (kXj (alts:=Ke x0) ac true (.here () rfl (.refl _) (.refl _)))
 (kXj (alts:=Ke x0) ac false (.next (.here () rfl (.refl _) (.refl _)))))
 (kXj (alts:=Ke x0) ac false (.next (.here () rfl (.refl _) (.refl _))))))
 (fun v7=>(kEr (enc:=eB) false))
 (fun v7=>(kJb (id:=5000006) (v7.fst,v7.snd) (fun aa a4 am=>(kIf (c:=v7.fst) (kXj (alts:=Y1 x0) a4 false (.next (.here () rfl (.refl _) (.refl _))))
 (kIf (c:=x0.fMany !=(0:Int)) (kXj (alts:=Y1 x0) a4 true (.here () rfl (.refl _) (.refl _)))
 (kIf (c:=x0.fMark !=(0:Int)) (kXj (alts:=Y1 x0) a4 true (.here () rfl (.refl _) (.refl _)))
 (kXj (alts:=Y1 x0) a4 false (.next (.here () rfl (.refl _) (.refl _))))))))
 (fun aa=>(kEr (enc:=eB) false))
 (fun aa=>(kJb (id:=5000008) (aa.fst,aa.snd) (fun a8 a5 ao=>(kIf (c:=x0.fOp !=(3:Int)) (kIf (c:=x0.fFold !=(0:Int)) (kXj (alts:=Kf x0) a5 true (.here () rfl (.refl _) (.refl _)))
 (kXj (alts:=Kf x0) a5 false (.next (.here () rfl (.refl _) (.refl _)))))
 (kXj (alts:=Kf x0) a5 false (.next (.here () rfl (.refl _) (.refl _))))))
 (fun a8=>(kEr (enc:=eB) false))
 (fun a8=>(kJb (id:=5000010) (a8.fst,a8.snd) (fun ab a6 ap=>(kIf (c:=a8.snd) (kXj (alts:=Kg x0) a6 false (.next (.here () rfl (.refl _) (.refl _))))
 (kN _ (mLen (sh:=Q4) x0.fIdx) fun ai=>(kIfD (p:=(0:Int)<ai) (kXj (alts:=Kg x0) a6 true (.here () rfl (.refl _) (.refl _)))
 (kXj (alts:=Kg x0) a6 false (.next (.here () rfl (.refl _) (.refl _))))))))
 (fun ab=>(kEr (enc:=eB) false))
 (fun ab=>(kJb (id:=5000012) ab.snd (fun ad a7 aq=>(kIf (c:=ab.fst) (kCb (HW x0.fExpr) (kXj (alts:=Kh x0) a7 false (.next (.here () rfl (.refl _) (.refl _))))
 (kXj (alts:=Kh x0) a7 true (.here () rfl (.refl _) (.refl _))))
 (kXj (alts:=Kh x0) a7 false (.next (.here () rfl (.refl _) (.refl _))))))
 (fun ad=>(kEr (enc:=eB) false))
 (fun ad=>(kIf (c:=ad) (kN _ (mLen (sh:=Qg) x0.fBody) fun aj=>(kEr (enc:=eB) (aj==(0:Int))))
 (kEr (enc:=eB) true)))))))))))))))) h)
def Jf(x0:Qc):Option Qc:=
 Us x0.fDims>>=fun v0=>
 some (Qc.mk x0.fName x0.fType v0 x0.fUse)
theorem L1(x0:Qc)(r:Qc)(h:Jf x0=some r):PU 143 [Q7 x0] (Q7 r):=
 Pu2 (hs:=[(5,.c eLI)]) ((kC (sh:=eLI) (IC x0.fDims) fun v0=>(kEr (enc:=Q7) (Qc.mk x0.fName x0.fType v0 x0.fUse))) h)
def YF(s:(Str×Qi))(u:Int)(o:Qc ⊕ (Qc×Bool)):List Alt:=[⟨fun(x:Qc)=>(Sum.inl x:Qc ⊕ (Qc×Bool))=o,.exit 0,fun x=>[.ptr 0 0 0,.undef],fun x=>[.cells 0 (Q7 x).cells]⟩,⟨fun(x:(Qc×Bool))=>(Sum.inr x:Qc ⊕ (Qc×Bool))=o,.ret,fun x=>[.ptr 0 0 0,.bool x.2],fun x=>[.cells 0 (Q7 x.1).cells]⟩]
def ZD(x1:Str)(x2:Qi)(x4:Qc)(x9:Int)(a3:Int):Option (Qc ⊕ (Qc×Bool)):=
 if a3<x9 then
 ix x2.fBufs a3>>=fun v0=>
 if v0.fName==x1 then
 ix x2.fBufs a3>>=fun v1=>
 Jf v1>>=fun v2=>
 some (.inr (v2,true))
 else
 ZD x1 x2 x4 x9 (wr (a3+(1:Int)))
 else
 some (.inl x4)
 partial_fixpoint
theorem Lr(x1:Str)(x2:Qi)(x4:Qc)(x9:Int)(a3:Int)(o:Qc ⊕ (Qc×Bool))(h:ZD x1 x2 x4 x9 a3=some o):LO 120 2 29 [1,2,4,9,10] [.str x1,.ptr 0 0 0,.ptr 1 0 0,ii x9,ii a3] [.cells 0 (Qw x2).cells,.cells 0 (Q7 x4).cells] [4,5] (YF (x1,x2) x9 o):=
 ZD.partial_correctness x1 x2 x4 x9 (fun a3 o=>LO 120 2 29 [1,2,4,9,10] [.str x1,.ptr 0 0 0,.ptr 1 0 0,ii x9,ii a3] [.cells 0 (Qw x2).cells,.cells 0 (Q7 x4).cells] [4,5] (YF (x1,x2) x9 o))
 (fun ZD Q37 a3 o h=>
 Lp2 (hs:=[(11,.split),(16,.e Q7),(20,.split),(24,.e Q7),(26,.c Q7)]) (kb:=[kk 2,kk 4]) (kbx:=[kk 4]) ((kIfD (p:=a3<x9) (kIx (enc:=Q7) (l:=x2.fBufs) (k:=a3) fun v0=>(kIf (c:=v0.fName==x1) (kIx (enc:=Q7) (l:=x2.fBufs) (k:=a3) fun v1=>(kC (sh:=Q7) (L1 v1) fun v2=>(kX (alts:=YF (x1,x2) x9) (.inr (v2,true)) (.next (.here _ rfl (.refl _) (.refl _))))))
 (kM0 (alts:=YF (x1,x2) x9) (Q37 (wr (a3+(1:Int)))))))
 (kX (alts:=YF (x1,x2) x9) (.inl x4) (.here _ rfl (.refl _) (.refl _)))) h)) a3 o h
def Ya(x0:Qi)(x1:Str):Option (Qc×Bool):=
 some (List.length x0.fBufs:Int)>>=fun v0=>
 some v0>>=fun v1=>
 ZD x1 x0 (Qc.mk [] (Q8.mk (0:Int) (0:Int) (0:Int) (0:Int) (0:Int)) [] (0:Int)) v0 (0:Int)>>=fun v2=>(match v2 with
 | (.inl v3)=>
 some ((Qc.mk [] (Q8.mk (0:Int) (0:Int) (0:Int) (0:Int) (0:Int)) [] (0:Int)))>>=fun v4=>
 some (v4,false)
 | (.inr v5)=>
 some (v5.fst,v5.snd))
theorem Jq(x0:Qi)(x1:Str)(r:(Qc×Bool))(h:Ya x0 x1=some r):PU 120 [Qw x0,eS x1] (Qz r):=
 Pu2 (hs:=[(9,.n eI 9 none),(28,.n Q7 28 none),(3000003,.l [] [1,2,4,9,10] [kk 2,kk 4] [4,5] [kk 4] (YF (x1,x0)))]) ((kN _ (mLen (sh:=Q7) x0.fBufs) fun v0=>(kL2 v0 (hL:=(fun y hy=>Ys.le (.cons (LeV.refl (AV.str x1)) (.cons (LeV.refl (AV.ptr (0:Nat) (0:Nat) (0:Nat))) (.cons (LeV.refl (AV.ptr (1:Nat) (0:Nat) (0:Nat))) (.cons (LeV.refl (ii v0)) (.cons (LeV.refl (ii (0:Int))) .nil))))) (.cons (LeB.refl (Box.cells (0:Nat) [AV.sl (8:Nat) (List.map Q7 x0.fBufs),AV.sl (20:Nat) (List.map Qg x0.fBody)])) (.cons (LeB.cells (0:Nat) (.cons (LeV.refl (AV.str [])) (.cons (LeV.refl (ii (0:Int))) (.cons (LeV.refl (ii (0:Int))) (.cons (LeV.refl (ii (0:Int))) (.cons (LeV.refl (ii (0:Int))) (.cons (LeV.refl (ii (0:Int))) (.cons (LeV.nil 1) (.cons (LeV.refl (ii (0:Int))) .nil))))))))) .nil)) (Lr x1 x0 (Qc.mk [] (Q8.mk (0:Int) (0:Int) (0:Int) (0:Int) (0:Int)) [] (0:Int)) v0 (0:Int) y hy))) (hA:=fun v1 v3=>(kW (sh:=Q7) (Qc.mk [] (Q8.mk (0:Int) (0:Int) (0:Int) (0:Int) (0:Int)) [] (0:Int)) (LeV.agg (.cons (LeV.refl (AV.str [])) (.cons (LeV.refl (ii (0:Int))) (.cons (LeV.refl (ii (0:Int))) (.cons (LeV.refl (ii (0:Int))) (.cons (LeV.refl (ii (0:Int))) (.cons (LeV.refl (ii (0:Int))) (.cons (LeV.nil 1) (.cons (LeV.refl (ii (0:Int))) .nil))))))))) fun v4=>(kEr (enc:=Qz) (v4,false))))
 (hB:=fun v1 v5=>(kEr (enc:=Qz) (v5.fst,v5.snd))))) h)
def XO(s:Qq)(u:Unit)(o:Bool):List Alt:=jb o (fun b=>[.ptr 0 0 0,.bool b]) [.cells 0 (Qv s).cells]
def Zr(s:Unit)(u:Unit)(o:Bool):List Alt:=jb o (fun b=>[.bool b]) []
def V5(x0:Q1)(x1:Qq):Option Int:=
 Vo x1.fName>>=fun v0=>if v0 then
 Ya x0.fnest x1.fName>>=fun v1=>
 some ()>>=fun v2=>
 (if v1.snd then
 some true
 else
 XC x0.floops x1.fName>>=fun v4=>if v4 then
 some true
 else
 some false)>>=fun v3=>if v3 then
 some (8:Int)
 else
 some ()>>=fun v7=>
 (if x1.fMany< (1:Int) then
 some true
 else
 if(65536:Int)<x1.fMany then
 some true
 else
 if x1.fMark< (0:Int) then
 some true
 else
 if(3:Int)<x1.fMark then
 some true
 else
 some false)>>=fun v8=>if v8 then
 some (1:Int)
 else
 some (0:Int)
 else
 some (7:Int)
theorem Ms(x0:Q1)(x1:Qq)(r:Int)(h:V5 x0 x1=some r):PU 97 [.ip 5 [.agg [.sl 8 (List.map Q7 x0.fnest.fBufs),.sl 20 (List.map Qg x0.fnest.fBody),.sl 1 (List.map eS x0.floops),.sl 1 (List.map eS x0.fscope),.sl 1 (List.map eI x0.fpath)]] 0 0,Qv x1] (eI r):=
 Pu2 (hs:=[(9,.cb),(18,.c Qz),(21,.split),(29,.cb),(33,.split),(37,.split),(42,.split),(47,.split),(5000004,.l [] [] [] [3,30] [kk 3] (XO x1)),(5000006,.l [] [] [] [48] [] (Zr ()))]) ((kCb (Dl x1.fName) (kC (sh:=Qz) (Jq x0.fnest x1.fName) fun v1=>(kJb (id:=5000004) () (fun v2 a6 v3=>(kIf (c:=v1.snd) (kXj (alts:=XO x1) a6 true (.here () rfl (.refl _) (.refl _)))
 (kCb (U2 x0.floops x1.fName) (kXj (alts:=XO x1) a6 true (.here () rfl (.refl _) (.refl _)))
 (kXj (alts:=XO x1) a6 false (.next (.here () rfl (.refl _) (.refl _)))))))
 (fun v2=>(kEr (enc:=eI) (8:Int)))
 (fun v2=>(kJb (id:=5000006) () (fun v7 a4 v8=>(kIfD (p:=x1.fMany< (1:Int)) (kXj (alts:=Zr ()) a4 true (.here () rfl (.refl _) (.refl _)))
 (kIfD (p:=(65536:Int)<x1.fMany) (kXj (alts:=Zr ()) a4 true (.here () rfl (.refl _) (.refl _)))
 (kIfD (p:=x1.fMark< (0:Int)) (kXj (alts:=Zr ()) a4 true (.here () rfl (.refl _) (.refl _)))
 (kIfD (p:=(3:Int)<x1.fMark) (kXj (alts:=Zr ()) a4 true (.here () rfl (.refl _) (.refl _)))
 (kXj (alts:=Zr ()) a4 false (.next (.here () rfl (.refl _) (.refl _)))))))))
 (fun v7=>(kEr (enc:=eI) (1:Int)))
 (fun v7=>(kEr (enc:=eI) (0:Int)))))))
 (kEr (enc:=eI) (7:Int))) h)
def YB(x0:Q0):Option Bool:=
 if(13:Int)≤x0.fOp then
 some (decide (x0.fOp≤(18:Int)))
 else
 some false
theorem Ut(x0:Q0)(r:Bool)(h:YB x0=some r):PU 99 [Q2 x0] (eB r):=
 Pu2 (hs:=[(5,.split)]) ((kIfD (p:=(13:Int)≤x0.fOp) (kEr (enc:=eB) (decide (x0.fOp≤(18:Int))))
 (kEr (enc:=eB) false)) h)
def Vp(x0:Zp)(x1:Q1):Option Bool:=
 XC x1.fscope x0.fName>>=fun v0=>
 some (!v0)
theorem Ww(x0:Zp)(x1:Q1)(r:Bool)(h:Vp x0 x1=some r):PU 183 [Qp x0,.ip 1 [.agg [.ip 5 [.agg [.sl 8 (List.map Q7 x1.fnest.fBufs),.sl 20 (List.map Qg x1.fnest.fBody),.sl 1 (List.map eS x1.floops),.sl 1 (List.map eS x1.fscope),.sl 1 (List.map eI x1.fpath)]] 0 0]] 0 0] (eB r):=
 Pu2 (hs:=[(10,.c eB)]) ((kC (sh:=eB) (U2 x1.fscope x0.fName) fun v0=>(kEr (enc:=eB) (!v0))) h)
def Zg(s:((List Zp)×Q1))(u:Int)(o:Unit ⊕ Int):List Alt:=[⟨fun(x:Unit)=>(Sum.inl x:Unit ⊕ Int)=o,.exit 0,fun x=>[.undef],fun x=>[]⟩,⟨fun(x:Int)=>(Sum.inr x:Unit ⊕ Int)=o,.ret,fun x=>[ii x],fun x=>[]⟩]
def QW(x0:List Zp)(x1:Q1)(x7:Int)(x8:Int):Option (Unit ⊕ Int):=
 if x8<x7 then
 ix x0 x8>>=fun v0=>
 Vp v0 x1>>=fun v1=>if v1 then
 some (.inr x8)
 else
 QW x0 x1 x7 (wr (x8+(1:Int)))
 else
 some (.inl ())
 partial_fixpoint
theorem Do(x0:List Zp)(x1:Q1)(x7:Int)(x8:Int)(o:Unit ⊕ Int)(h:QW x0 x1 x7 x8=some o):LO 223 2 19 [0,1,7,8] [.sl 2 (List.map Qp x0),.fn 183 [.ip 1 [.agg [.ip 5 [.agg [.sl 8 (List.map Q7 x1.fnest.fBufs),.sl 20 (List.map Qg x1.fnest.fBody),.sl 1 (List.map eS x1.floops),.sl 1 (List.map eS x1.fscope),.sl 1 (List.map eI x1.fpath)]] 0 0]] 0 0],ii x7,ii x8] [] [4] (Zg (x0,x1) x7 o):=
 QW.partial_correctness x0 x1 x7 (fun x8 o=>LO 223 2 19 [0,1,7,8] [.sl 2 (List.map Qp x0),.fn 183 [.ip 1 [.agg [.ip 5 [.agg [.sl 8 (List.map Q7 x1.fnest.fBufs),.sl 20 (List.map Qg x1.fnest.fBody),.sl 1 (List.map eS x1.floops),.sl 1 (List.map eS x1.fscope),.sl 1 (List.map eI x1.fpath)]] 0 0]] 0 0],ii x7,ii x8] [] [4] (Zg (x0,x1) x7 o))
 (fun QW Q51 x8 o h=>
 Lp2 (hs:=[(9,.split),(14,.e Qp),(16,.cb)]) (kb:=[]) (kbx:=[]) ((kIfD (p:=x8<x7) (kIx (enc:=Qp) (l:=x0) (k:=x8) fun v0=>(kCb (Ww v0 x1) (kX (alts:=Zg (x0,x1) x7) (.inr x8) (.next (.here _ rfl (.refl _) (.refl _))))
 (kM0 (alts:=Zg (x0,x1) x7) (Q51 (wr (x8+(1:Int)))))))
 (kX (alts:=Zg (x0,x1) x7) (.inl ()) (.here _ rfl (.refl _) (.refl _)))) h)) x8 o h
def Km(x0:List Zp)(x1:Q1):Option Int:=
 some (List.length x0:Int)>>=fun v0=>
 some v0>>=fun v1=>
 QW x0 x1 v0 (0:Int)>>=fun v2=>(match v2 with
 | (.inl v3)=>
 some (-1:Int)
 | (.inr v4)=>
 some v4)
theorem Cy(x0:List Zp)(x1:Q1)(r:Int)(h:Km x0 x1=some r):PU 223 [Hs x0,.fn 183 [.ip 1 [.agg [.ip 5 [.agg [.sl 8 (List.map Q7 x1.fnest.fBufs),.sl 20 (List.map Qg x1.fnest.fBody),.sl 1 (List.map eS x1.floops),.sl 1 (List.map eS x1.fscope),.sl 1 (List.map eI x1.fpath)]] 0 0]] 0 0]] (eI r):=
 Pu2 (hs:=[(7,.n eI 7 none),(3000003,.l [] [0,1,7,8] [] [4] [] (Zg (x0,x1)))]) ((kN _ (mLen (sh:=Qp) x0) fun v0=>(kL2 v0 (hL:=(Do x0 x1 v0 (0:Int))) (hA:=fun v1 v3=>(kEr (enc:=eI) (-1:Int)))
 (hB:=fun v1 v4=>(kEr (enc:=eI) v4)))) h)
def Xd(x0:List Zp)(x1:Q1):Option Bool:=
 Km x0 x1>>=fun v0=>
 some (decide ((0:Int)≤v0))
theorem Dn(x0:List Zp)(x1:Q1)(r:Bool)(h:Xd x0 x1=some r):PU 182 [Hs x0,.fn 183 [.ip 1 [.agg [.ip 5 [.agg [.sl 8 (List.map Q7 x1.fnest.fBufs),.sl 20 (List.map Qg x1.fnest.fBody),.sl 1 (List.map eS x1.floops),.sl 1 (List.map eS x1.fscope),.sl 1 (List.map eI x1.fpath)]] 0 0]] 0 0]] (eB r):=
 Pu2 (hs:=[(7,.c eI)]) ((kC (sh:=eI) (Cy x0 x1) fun v0=>(kEr (enc:=eB) (decide ((0:Int)≤v0)))) h)
def ZU(x0:Q1)(x1:gLin):Option Bool:=
 Xd x1.fL x0>>=fun v0=>
 some (!v0)
theorem Jo(x0:Q1)(x1:gLin)(r:Bool)(h:ZU x0 x1=some r):PU 149 [.ip 5 [.agg [.sl 8 (List.map Q7 x0.fnest.fBufs),.sl 20 (List.map Qg x0.fnest.fBody),.sl 1 (List.map eS x0.floops),.sl 1 (List.map eS x0.fscope),.sl 1 (List.map eI x0.fpath)]] 0 0,Qh x1] (eB r):=
 Pu2 (hs:=[(7,.z [{slot:=2,fz:=true}] none),(8,.c eB),(3,.z [{slot:=2,fz:=true}] none)]) ((kC (sh:=eB) (Dn x1.fL x0) fun v0=>(kEr (enc:=eB) (!v0))) h)
def Jy(x0:gLin)(x1:Q1):Option Bool:=
 ZU x1 x0>>=fun v0=>
 some (!v0)
theorem NE(x0:gLin)(x1:Q1)(r:Bool)(h:Jy x0 x1=some r):PU 151 [Qh x0,.ip 1 [.agg [.ip 5 [.agg [.sl 8 (List.map Q7 x1.fnest.fBufs),.sl 20 (List.map Qg x1.fnest.fBody),.sl 1 (List.map eS x1.floops),.sl 1 (List.map eS x1.fscope),.sl 1 (List.map eI x1.fpath)]] 0 0]] 0 0] (eB r):=
 Pu2 (hs:=[(6,.c eB)]) ((kC (sh:=eB) (Jo x1 x0) fun v0=>(kEr (enc:=eB) (!v0))) h)
def Zm(s:((List gLin)×Q1))(u:Int)(o:Unit ⊕ Int):List Alt:=[⟨fun(x:Unit)=>(Sum.inl x:Unit ⊕ Int)=o,.exit 0,fun x=>[.undef],fun x=>[]⟩,⟨fun(x:Int)=>(Sum.inr x:Unit ⊕ Int)=o,.ret,fun x=>[ii x],fun x=>[]⟩]
def QY(x0:List gLin)(x1:Q1)(x7:Int)(x8:Int):Option (Unit ⊕ Int):=
 if x8<x7 then
 ix x0 x8>>=fun v0=>
 Jy v0 x1>>=fun v1=>if v1 then
 some (.inr x8)
 else
 QY x0 x1 x7 (wr (x8+(1:Int)))
 else
 some (.inl ())
 partial_fixpoint
theorem DM(x0:List gLin)(x1:Q1)(x7:Int)(x8:Int)(o:Unit ⊕ Int)(h:QY x0 x1 x7 x8=some o):LO 184 2 19 [0,1,7,8] [.sl 2 (List.map Qh x0),.fn 151 [.ip 1 [.agg [.ip 5 [.agg [.sl 8 (List.map Q7 x1.fnest.fBufs),.sl 20 (List.map Qg x1.fnest.fBody),.sl 1 (List.map eS x1.floops),.sl 1 (List.map eS x1.fscope),.sl 1 (List.map eI x1.fpath)]] 0 0]] 0 0],ii x7,ii x8] [] [4] (Zm (x0,x1) x7 o):=
 QY.partial_correctness x0 x1 x7 (fun x8 o=>LO 184 2 19 [0,1,7,8] [.sl 2 (List.map Qh x0),.fn 151 [.ip 1 [.agg [.ip 5 [.agg [.sl 8 (List.map Q7 x1.fnest.fBufs),.sl 20 (List.map Qg x1.fnest.fBody),.sl 1 (List.map eS x1.floops),.sl 1 (List.map eS x1.fscope),.sl 1 (List.map eI x1.fpath)]] 0 0]] 0 0],ii x7,ii x8] [] [4] (Zm (x0,x1) x7 o))
 (fun QY Q50 x8 o h=>
 Lp2 (hs:=[(9,.split),(14,.e Qh),(16,.cb)]) (kb:=[]) (kbx:=[]) ((kIfD (p:=x8<x7) (kIx (enc:=Qh) (l:=x0) (k:=x8) fun v0=>(kCb (NE v0 x1) (kX (alts:=Zm (x0,x1) x7) (.inr x8) (.next (.here _ rfl (.refl _) (.refl _))))
 (kM0 (alts:=Zm (x0,x1) x7) (Q50 (wr (x8+(1:Int)))))))
 (kX (alts:=Zm (x0,x1) x7) (.inl ()) (.here _ rfl (.refl _) (.refl _)))) h)) x8 o h
def KA(x0:List gLin)(x1:Q1):Option Int:=
 some (List.length x0:Int)>>=fun v0=>
 some v0>>=fun v1=>
 QY x0 x1 v0 (0:Int)>>=fun v2=>(match v2 with
 | (.inl v3)=>
 some (-1:Int)
 | (.inr v4)=>
 some v4)
theorem CK(x0:List gLin)(x1:Q1)(r:Int)(h:KA x0 x1=some r):PU 184 [G4 x0,.fn 151 [.ip 1 [.agg [.ip 5 [.agg [.sl 8 (List.map Q7 x1.fnest.fBufs),.sl 20 (List.map Qg x1.fnest.fBody),.sl 1 (List.map eS x1.floops),.sl 1 (List.map eS x1.fscope),.sl 1 (List.map eI x1.fpath)]] 0 0]] 0 0]] (eI r):=
 Pu2 (hs:=[(7,.n eI 7 none),(3000003,.l [] [0,1,7,8] [] [4] [] (Zm (x0,x1)))]) ((kN _ (mLen (sh:=Qh) x0) fun v0=>(kL2 v0 (hL:=(DM x0 x1 v0 (0:Int))) (hA:=fun v1 v3=>(kEr (enc:=eI) (-1:Int)))
 (hB:=fun v1 v4=>(kEr (enc:=eI) v4)))) h)
def Xs(x0:List gLin)(x1:Q1):Option Bool:=
 KA x0 x1>>=fun v0=>
 some (decide ((0:Int)≤v0))
theorem DL(x0:List gLin)(x1:Q1)(r:Bool)(h:Xs x0 x1=some r):PU 150 [G4 x0,.fn 151 [.ip 1 [.agg [.ip 5 [.agg [.sl 8 (List.map Q7 x1.fnest.fBufs),.sl 20 (List.map Qg x1.fnest.fBody),.sl 1 (List.map eS x1.floops),.sl 1 (List.map eS x1.fscope),.sl 1 (List.map eI x1.fpath)]] 0 0]] 0 0]] (eB r):=
 Pu2 (hs:=[(7,.c eI)]) ((kC (sh:=eI) (CK x0 x1) fun v0=>(kEr (enc:=eB) (decide ((0:Int)≤v0)))) h)
def QZ(s:Q1)(u:((List Qf)×Int))(o:Unit ⊕ Int):List Alt:=[⟨fun(x:Unit)=>(Sum.inl x:Unit ⊕ Int)=o,.exit 2,fun x=>[.undef],fun x=>[]⟩,⟨fun(x:Int)=>(Sum.inr x:Unit ⊕ Int)=o,.ret,fun x=>[ii x],fun x=>[]⟩]
def QG(x2:Q1)(a4:List Qf)(a5:Int)(a3:Int):Option (Unit ⊕ Int):=
 if a3<a5 then
 ix a4 a3>>=fun v0=>
 if v0.fFrom==[] then
 QG x2 a4 a5 (wr (a3+(1:Int)))
 else
 Ya x2.fnest v0.fFrom>>=fun v1=>
 if v1.snd then
 if v1.fst.fType.fKind !=(3:Int) then
 some (.inr (10:Int))
 else
 some (List.length v1.fst.fDims:Int)>>=fun v2=>
 some (List.length v0.fAt:Int)>>=fun v3=>
 if v2 !=v3 then
 some (.inr (11:Int))
 else
 QG x2 a4 a5 (wr (a3+(1:Int)))
 else
 some (.inr (9:Int))
 else
 some (.inl ())
 partial_fixpoint
theorem Na(x2:Q1)(a3:List Qf)(a4:Int)(a6:Int)(o:Unit ⊕ Int)(h:QG x2 a3 a4 a6=some o):LO 123 17 100 [2,64,65,66] [.ip 1 [.agg [.ip 5 [.agg [.sl 8 (List.map Q7 x2.fnest.fBufs),.sl 20 (List.map Qg x2.fnest.fBody),.sl 1 (List.map eS x2.floops),.sl 1 (List.map eS x2.fscope),.sl 1 (List.map eI x2.fpath)]] 0 0]] 0 0,.sl 4 (List.map Q4 a3),ii a4,ii a6] [] [4] (QZ x2 (a3,a4) o):=
 QG.partial_correctness x2 a3 a4 (fun a6 o=>LO 123 17 100 [2,64,65,66] [.ip 1 [.agg [.ip 5 [.agg [.sl 8 (List.map Q7 x2.fnest.fBufs),.sl 20 (List.map Qg x2.fnest.fBody),.sl 1 (List.map eS x2.floops),.sl 1 (List.map eS x2.fscope),.sl 1 (List.map eI x2.fpath)]] 0 0]] 0 0,.sl 4 (List.map Q4 a3),ii a4,ii a6] [] [4] (QZ x2 (a3,a4) o))
 (fun QG Q39 a6 o h=>
 Lp2 (hs:=[(67,.split),(68,.e Q4),(72,.split),(80,.c Qz),(84,.split),(90,.split),(94,.n eI 94 none),(97,.n eI 97 none),(98,.split)]) (kb:=[]) (kbx:=[]) ((kIfD (p:=a6<a4) (kIx (enc:=Q4) (l:=a3) (k:=a6) fun v0=>(kIf (c:=v0.fFrom==[]) (kM0 (alts:=QZ x2 (a3,a4)) (Q39 (wr (a6+(1:Int)))))
 (kC (sh:=Qz) (Jq x2.fnest v0.fFrom) fun v1=>(kIf (c:=v1.snd) (kIf (c:=v1.fst.fType.fKind !=(3:Int)) (kX (alts:=QZ x2 (a3,a4)) (.inr (10:Int)) (.next (.here _ rfl (.refl _) (.refl _))))
 (kN _ (mLen (sh:=eI) v1.fst.fDims) fun v2=>(kN _ (mLen (sh:=Qh) v0.fAt) fun v3=>(kIf (c:=v2 !=v3) (kX (alts:=QZ x2 (a3,a4)) (.inr (11:Int)) (.next (.here _ rfl (.refl _) (.refl _))))
 (kM0 (alts:=QZ x2 (a3,a4)) (Q39 (wr (a6+(1:Int)))))))))
 (kX (alts:=QZ x2 (a3,a4)) (.inr (9:Int)) (.next (.here _ rfl (.refl _) (.refl _))))))))
 (kX (alts:=QZ x2 (a3,a4)) (.inl ()) (.here _ rfl (.refl _) (.refl _)))) h)) a6 o h
def Zy(s:(Q1×Q0))(u:((List Qf)×Int))(o:Bool):List Alt:=[⟨fun(x:Bool)=>x=o,.exit 0,fun x=>[.ip 1 [.agg [.ip 5 [.agg [.sl 8 (List.map Q7 s.1.fnest.fBufs),.sl 20 (List.map Qg s.1.fnest.fBody),.sl 1 (List.map eS s.1.floops),.sl 1 (List.map eS s.1.fscope),.sl 1 (List.map eI s.1.fpath)]] 0 0]] 0 0,.ptr 0 0 0,.bool x],fun x=>[.cells 0 (Q2 s.2).cells]⟩]
def QB(x2:Q1)(x5:Bool)(a4:List Qf)(a5:Int)(a3:Int):Option Bool:=
 if a3<a5 then
 ix a4 a3>>=fun v0=>
 if x5 then
 ZU x2 v0.fLin>>=fun v1=>if v1 then
 Xs v0.fAt x2>>=fun v2=>
 QB x2 (!v2) a4 a5 (wr (a3+(1:Int)))
 else
 QB x2 false a4 a5 (wr (a3+(1:Int)))
 else
 QB x2 false a4 a5 (wr (a3+(1:Int)))
 else
 some x5
 partial_fixpoint
theorem Nw(x2:Q1)(x3:Q0)(x5:Bool)(a3:List Qf)(a4:Int)(a5:Int)(o:Bool)(h:QB x2 x5 a3 a4 a5=some o):LO 123 3 100 [2,3,5,18,19,20] [.ip 1 [.agg [.ip 5 [.agg [.sl 8 (List.map Q7 x2.fnest.fBufs),.sl 20 (List.map Qg x2.fnest.fBody),.sl 1 (List.map eS x2.floops),.sl 1 (List.map eS x2.fscope),.sl 1 (List.map eI x2.fpath)]] 0 0]] 0 0,.ptr 0 0 0,.bool x5,.sl 4 (List.map Q4 a3),ii a4,ii a5] [.cells 0 (Q2 x3).cells] [2,3,5] (Zy (x2,x3) (a3,a4) o):=
 QB.partial_correctness x2 a3 a4 (fun x5 a5 o=>∀(x3:Q0),LO 123 3 100 [2,3,5,18,19,20] [.ip 1 [.agg [.ip 5 [.agg [.sl 8 (List.map Q7 x2.fnest.fBufs),.sl 20 (List.map Qg x2.fnest.fBody),.sl 1 (List.map eS x2.floops),.sl 1 (List.map eS x2.fscope),.sl 1 (List.map eI x2.fpath)]] 0 0]] 0 0,.ptr 0 0 0,.bool x5,.sl 4 (List.map Q4 a3),ii a4,ii a5] [.cells 0 (Q2 x3).cells] [2,3,5] (Zy (x2,x3) (a3,a4) o))
 (fun QB Q3a x5 a5 o h x3=>
 Lp2 (hs:=[(21,.split),(22,.e Q4),(24,.split),(29,.cb),(34,.z [{slot:=2,fz:=true}] none),(35,.c eB)]) (kb:=[kk 3]) (kbx:=[kk 3]) ((kIfD (p:=a5<a4) (kIx (enc:=Q4) (l:=a3) (k:=a5) fun v0=>(kIf (c:=x5) (kCb (Jo x2 v0.fLin) (kC (sh:=eB) (DL v0.fAt x2) fun v2=>(kM0 (alts:=Zy (x2,x3) (a3,a4)) (fun y hy=>Q3a (!v2) (wr (a5+(1:Int))) y hy x3)))
 (kM0 (alts:=Zy (x2,x3) (a3,a4)) (fun y hy=>Q3a false (wr (a5+(1:Int))) y hy x3)))
 (kM0 (alts:=Zy (x2,x3) (a3,a4)) (fun y hy=>Q3a false (wr (a5+(1:Int))) y hy x3))))
 (kX (alts:=Zy (x2,x3) (a3,a4)) x5 (.here _ rfl (.refl _) (.refl _)))) h)) x5 a5 o h x3
def V6(x0:Q1)(x1:Q0):Option Int:=
 ZU x0 x1.fLin>>=fun v0=>
 some (List.length x1.fIdx:Int)>>=fun v1=>
 some (x1.fIdx,v1)>>=fun v2=>
 QB x0 v0 x1.fIdx v1 (0:Int)>>=fun v4=>
 if v4 then
 if x1.fOp !=(3:Int) then
 some (0:Int)
 else
 Ya x0.fnest x1.fName>>=fun v5=>
 if v5.snd then
 some (List.length v5.fst.fDims:Int)>>=fun v6=>
 some (List.length x1.fIdx:Int)>>=fun v7=>
 if v6 !=v7 then
 some (11:Int)
 else
 some (List.length x1.fIdx:Int)>>=fun v8=>
 some (x1.fIdx,v8)>>=fun v9=>
 QG x0 x1.fIdx v8 (0:Int)>>=fun a5=>(match a5 with
 | (.inl v11)=>
 some (0:Int)
 | (.inr v12)=>
 some v12)
 else
 some (9:Int)
 else
 some (9:Int)
theorem Mt(x0:Q1)(x1:Q0)(r:Int)(h:V6 x0 x1=some r):PU 123 [.ip 5 [.agg [.sl 8 (List.map Q7 x0.fnest.fBufs),.sl 20 (List.map Qg x0.fnest.fBody),.sl 1 (List.map eS x0.floops),.sl 1 (List.map eS x0.fscope),.sl 1 (List.map eI x0.fpath)]] 0 0,Q2 x1] (eI r):=
 Pu2 (hs:=[(16,.c eB),(19,.n eI 19 none),(39,.split),(43,.split),(51,.c Qz),(54,.split),(58,.n eI 58 none),(61,.n eI 61 none),(62,.split),(65,.n eI 65 none),(3,.z [{slot:=2,fz:=true}] none),(3000018,.l [] [2,64,65,66] [] [4] [] (QZ x0)),(3000004,.l [] [2,3,5,18,19,20] [kk 3] [2,3,5] [kk 3] (Zy (x0,x1)))]) ((kC (sh:=eB) (Jo x0 x1.fLin) fun v0=>(kN _ (mLen (sh:=Q4) x1.fIdx) fun v1=>(kL1 (x1.fIdx,v1) (Nw x0 x1 v0 x1.fIdx v1 (0:Int)) fun v2 v4=>(kIf (c:=v4) (kIf (c:=x1.fOp !=(3:Int)) (kEr (enc:=eI) (0:Int))
 (kC (sh:=Qz) (Jq x0.fnest x1.fName) fun v5=>(kIf (c:=v5.snd) (kN _ (mLen (sh:=eI) v5.fst.fDims) fun v6=>(kN _ (mLen (sh:=Q4) x1.fIdx) fun v7=>(kIf (c:=v6 !=v7) (kEr (enc:=eI) (11:Int))
 (kN _ (mLen (sh:=Q4) x1.fIdx) fun v8=>(kL2 (x1.fIdx,v8) (hL:=(Na x0 x1.fIdx v8 (0:Int))) (hA:=fun v9 aa=>(kEr (enc:=eI) (0:Int)))
 (hB:=fun v9 a5=>(kEr (enc:=eI) a5)))))))
 (kEr (enc:=eI) (9:Int)))))
 (kEr (enc:=eI) (9:Int)))))) h)
def ZM(s:(Q1×Q0))(u:((List Q6)×Int))(o:(Q8× (List Q8)) ⊕ (Q8×Int)):List Alt:=[⟨fun(x:(Q8× (List Q8)))=>(Sum.inl x:(Q8× (List Q8)) ⊕ (Q8×Int))=o,.exit 0,fun x=>[.ip 5 [.agg [.sl 8 (List.map Q7 s.1.fnest.fBufs),.sl 20 (List.map Qg s.1.fnest.fBody),.sl 1 (List.map eS s.1.floops),.sl 1 (List.map eS s.1.fscope),.sl 1 (List.map eI s.1.fpath)]] 0 0,.ptr 0 0 0,.ptr 1 0 0,.undef,.sl 5 (List.map Qd x.2)],fun x=>[.cells 0 (Q2 s.2).cells,.cells 0 (Qd x.1).cells]⟩,⟨fun(x:(Q8×Int))=>(Sum.inr x:(Q8× (List Q8)) ⊕ (Q8×Int))=o,.ret,fun x=>[.ip 5 [.agg [.sl 8 (List.map Q7 s.1.fnest.fBufs),.sl 20 (List.map Qg s.1.fnest.fBody),.sl 1 (List.map eS s.1.floops),.sl 1 (List.map eS s.1.fscope),.sl 1 (List.map eI s.1.fpath)]] 0 0,.ptr 0 0 0,.ptr 1 0 0,ii x.2,.undef],fun x=>[.cells 0 (Q2 s.2).cells,.cells 0 (Qd x.1).cells]⟩]
def Xk(s:(Q1×Q0))(u:(Q8× (List Q8)×Int))(o:Bool):List Alt:=jb o (fun b=>[.ip 5 [.agg [.sl 8 (List.map Q7 (s.1).fnest.fBufs),.sl 20 (List.map Qg (s.1).fnest.fBody),.sl 1 (List.map eS (s.1).floops),.sl 1 (List.map eS (s.1).fscope),.sl 1 (List.map eI (s.1).fpath)]] 0 0,.ptr 0 0 0,.ptr 1 0 0,.sl 5 (List.map Qd (u.2.1)),ii (u.2.2),.bool b]) [.cells 0 (Q2 (s.2)).cells,.cells 0 (Qd (u.1)).cells]
def Zz(s:Q0)(u:(Q8× (List Q8)))(o:Bool):List Alt:=jb o (fun b=>[.ptr 0 0 0,.ptr 1 0 0,.sl 5 (List.map Qd (u.2)),.bool b]) [.cells 0 (Q2 s).cells,.cells 0 (Qd (u.1)).cells]
mutual
def Ze(x0:Q1)(x1:Q0):Option (Q8×Int):=
 some (List.length x1.fArgs:Int)>>=fun v0=>
 some (x1.fArgs,v0)>>=fun v1=>
 QV x0 (Q8.mk (0:Int) (0:Int) (0:Int) (0:Int) (0:Int)) [] x1.fArgs v0 (0:Int)>>=fun v2=>(match v2 with
 | (.inl v3)=>
 some (v3.fst,v3.snd,x1.fOp)>>=fun v4=>
 (if x1.fOp==(1:Int) then
 some true
 else
 if x1.fOp==(12:Int) then
 some true
 else
 some false)>>=fun v5=>if v5 then
 some (x1.fType,(0:Int))
 else
 if v4.snd.snd==(2:Int) then
 some ((Q8.mk (3:Int) (0:Int) (0:Int) (0:Int) (0:Int)))>>=fun v8=>
 some (v8,(0:Int))
 else
 if v4.snd.snd==(3:Int) then
 Ya x0.fnest x1.fName>>=fun v9=>
 some (v9.fst.fType,(0:Int))
 else
 if v4.snd.snd==(8:Int) then
 ix v4.snd.fst (0:Int)>>=fun a8=>
 some (a8,(0:Int))
 else
 some (v4.fst,v4.snd.fst)>>=fun a3=>
 (if v4.snd.snd==(16:Int) then
 some true
 else
 if v4.snd.snd==(17:Int) then
 some true
 else
 if v4.snd.snd==(18:Int) then
 some true
 else
 some false)>>=fun a9=>if a9 then
 some ((Q8.mk (0:Int) (0:Int) (0:Int) (0:Int) (0:Int)))>>=fun aa=>
 some (aa,(0:Int))
 else
 ix a3.snd (wr ((↑(List.map Qd a3.snd).length:Int) - (2:Int)))>>=fun a4=>
 ix a3.snd (wr ((↑(List.map Qd a3.snd).length:Int) - (1:Int)))>>=fun a5=>
 some (List.length a3.snd:Int)>>=fun ai=>
 some (List.length a3.snd:Int)>>=fun aj=>
 if !(a4.fKind==a5.fKind&& (a4.fBits==a5.fBits&& (a4.fFrac==a5.fFrac&& (a4.fRound==a5.fRound&& (a4.fOver==a5.fOver&&true))))) then
 some ((Q8.mk (0:Int) (0:Int) (0:Int) (0:Int) (0:Int)))>>=fun ab=>
 some (ab,(10:Int))
 else
 YB x1>>=fun ac=>if ac then
 some ((Q8.mk (0:Int) (0:Int) (0:Int) (0:Int) (0:Int)))>>=fun ad=>
 some (ad,(0:Int))
 else
 some (List.length a3.snd:Int)>>=fun ae=>
 ix a3.snd (wr (ae - (1:Int)))>>=fun af=>
 some (af,(0:Int))
 | (.inr v25)=>
 some (v25.fst,v25.snd))
 partial_fixpoint
def QV(x0:Q1)(x4:Q8)(x6:List Q8)(a4:List Q6)(a5:Int)(a3:Int):Option ((Q8× (List Q8)) ⊕ (Q8×Int)):=
 if a3<a5 then
 Option.map Q6.f (ix a4 a3)>>=fun v0=>
 Ze x0 v0>>=fun v1=>
 if v1.snd !=(0:Int) then
 some (.inr (v1.fst,v1.snd))
 else
 if(x6.length+(1:Nat))*(40:Nat)≤(140737488355328:Nat)∧x6.length+(1:Nat)≤(9223372036854775807:Nat) then
 some (x6++[v1.fst])>>=fun v2=>
 QV x0 x4 v2 a4 a5 (wr (a3+(1:Int)))
 else none
 else
 some (.inl (x4,x6))
 partial_fixpoint
end
theorem Nt(x0:Q1):(∀(x1:Q0) (r:(Q8×Int)),Ze x0 x1=some r→PU 124 [.ip 5 [.agg [.sl 8 (List.map Q7 x0.fnest.fBufs),.sl 20 (List.map Qg x0.fnest.fBody),.sl 1 (List.map eS x0.floops),.sl 1 (List.map eS x0.fscope),.sl 1 (List.map eI x0.fpath)]] 0 0,Q2 x1] (Ql r))∧(∀(x4:Q8) (x6:List Q8) (a5:List Q6) (a6:Int) (a8:Int) (o:(Q8× (List Q8)) ⊕ (Q8×Int)),QV x0 x4 x6 a5 a6 a8=some o→∀(x3:Q0),LO 124 3 92 [0,3,4,6,14,15,16] [.ip 5 [.agg [.sl 8 (List.map Q7 x0.fnest.fBufs),.sl 20 (List.map Qg x0.fnest.fBody),.sl 1 (List.map eS x0.floops),.sl 1 (List.map eS x0.fscope),.sl 1 (List.map eI x0.fpath)]] 0 0,.ptr 0 0 0,.ptr 1 0 0,.ow 2 0 5 (List.length x6),.sl 13 (List.map Qo a5),ii a6,ii a8] [.cells 0 (Q2 x3).cells,.cells 0 (Qd x4).cells,.own 0 5 (List.map Qd x6)] [0,3,4,5,6] (ZM (x0,x3) (a5,a6) o)):=
 Ze.mutual_partial_correctness x0 (fun x1 r=>PU 124 [.ip 5 [.agg [.sl 8 (List.map Q7 x0.fnest.fBufs),.sl 20 (List.map Qg x0.fnest.fBody),.sl 1 (List.map eS x0.floops),.sl 1 (List.map eS x0.fscope),.sl 1 (List.map eI x0.fpath)]] 0 0,Q2 x1] (Ql r)) (fun x4 x6 a5 a6 a8 o=>∀(x3:Q0),LO 124 3 92 [0,3,4,6,14,15,16] [.ip 5 [.agg [.sl 8 (List.map Q7 x0.fnest.fBufs),.sl 20 (List.map Qg x0.fnest.fBody),.sl 1 (List.map eS x0.floops),.sl 1 (List.map eS x0.fscope),.sl 1 (List.map eI x0.fpath)]] 0 0,.ptr 0 0 0,.ptr 1 0 0,.ow 2 0 5 (List.length x6),.sl 13 (List.map Qo a5),ii a6,ii a8] [.cells 0 (Q2 x3).cells,.cells 0 (Qd x4).cells,.own 0 5 (List.map Qd x6)] [0,3,4,5,6] (ZM (x0,x3) (a5,a6) o))
 (fun QV Q3e x1 r h=>
 Pu2 (hs:=[(15,.n eI 15 none),(37,.split),(37,.split),(43,.split),(44,.n Qd 44 none),(46,.split),(54,.c Qz),(60,.split),(62,.e Qd),(64,.split),(64,.split),(64,.split),(68,.n Qd 68 none),(71,.n eI 71 none),(73,.e Qd),(77,.n eI 77 none),(79,.e Qd),(81,.split),(82,.n Qd 82 none),(84,.cb),(85,.n Qd 85 none),(88,.n eI 88 none),(90,.e Qd),(3000004,.l [] [0,3,4,6,14,15,16] [kk 3,kk 4,{slot:=6,own:=5}] [0,3,4,5,6] [kk 3,kk 4,{slot:=6,fz:=true}] (ZM (x0,x1))),(6000013,.l [] [] [] [0,3,4,6,36,37] [kk 3,kk 4,{slot:=6,fz:=true}] (Xk (x0,x1))),(6000023,.l [] [] [] [3,4,6,64] [kk 3,kk 4,{slot:=6,fz:=true}] (Zz x1))]) ((kN _ (mLen (sh:=Qo) x1.fArgs) fun v0=>(kL2 (x1.fArgs,v0) (hL:=(fun y hy=>Q3e (Q8.mk (0:Int) (0:Int) (0:Int) (0:Int) (0:Int)) [] x1.fArgs v0 (0:Int) y hy x1)) (hA:=fun v1 v3=>(kJb (id:=6000013) (v3.fst,v3.snd,x1.fOp) (fun v4 ag v5=>(kIf (c:=x1.fOp==(1:Int)) (kXj (alts:=Xk (x0,x1)) ag true (.here () rfl (.refl _) (.refl _)))
 (kIf (c:=x1.fOp==(12:Int)) (kXj (alts:=Xk (x0,x1)) ag true (.here () rfl (.refl _) (.refl _)))
 (kXj (alts:=Xk (x0,x1)) ag false (.next (.here () rfl (.refl _) (.refl _)))))))
 (fun v4=>(kEr (enc:=Ql) (x1.fType,(0:Int))))
 (fun v4=>(kIf (c:=v4.snd.snd==(2:Int)) (kW (sh:=Qd) (Q8.mk (3:Int) (0:Int) (0:Int) (0:Int) (0:Int)) lr fun v8=>(kEr (enc:=Ql) (v8,(0:Int))))
 (kIf (c:=v4.snd.snd==(3:Int)) (kC (sh:=Qz) (Jq x0.fnest x1.fName) fun v9=>(kEr (enc:=Ql) (v9.fst.fType,(0:Int))))
 (kIf (c:=v4.snd.snd==(8:Int)) (kIx (enc:=Qd) (l:=v4.snd.fst) (k:=(0:Int)) fun am=>(kEr (enc:=Ql) (am,(0:Int))))
 (kJb (id:=6000023) (v4.fst,v4.snd.fst) (fun a7 aa ax=>(kIf (c:=v4.snd.snd==(16:Int)) (kXj (alts:=Zz x1) aa true (.here () rfl (.refl _) (.refl _)))
 (kIf (c:=v4.snd.snd==(17:Int)) (kXj (alts:=Zz x1) aa true (.here () rfl (.refl _) (.refl _)))
 (kIf (c:=v4.snd.snd==(18:Int)) (kXj (alts:=Zz x1) aa true (.here () rfl (.refl _) (.refl _)))
 (kXj (alts:=Zz x1) aa false (.next (.here () rfl (.refl _) (.refl _))))))))
 (fun a7=>(kW (sh:=Qd) (Q8.mk (0:Int) (0:Int) (0:Int) (0:Int) (0:Int)) lr fun ao=>(kEr (enc:=Ql) (ao,(0:Int)))))
 (fun a7=>(kIx (enc:=Qd) (l:=a7.snd) (k:=wr ((↑(List.map Qd a7.snd).length:Int) - (2:Int))) fun ab=>(kIx (enc:=Qd) (l:=a7.snd) (k:=wr ((↑(List.map Qd a7.snd).length:Int) - (1:Int))) fun ac=>(kN _ (mLen (sh:=Qd) a7.snd) fun ay=>(kN _ (mLen (sh:=Qd) a7.snd) fun az=>(kIf (c:= !(ab.fKind==ac.fKind&& (ab.fBits==ac.fBits&& (ab.fFrac==ac.fFrac&& (ab.fRound==ac.fRound&& (ab.fOver==ac.fOver&&true)))))) (kW (sh:=Qd) (Q8.mk (0:Int) (0:Int) (0:Int) (0:Int) (0:Int)) lr fun ap=>(kEr (enc:=Ql) (ap,(10:Int))))
 (kCb (Ut x1) (kW (sh:=Qd) (Q8.mk (0:Int) (0:Int) (0:Int) (0:Int) (0:Int)) lr fun aq=>(kEr (enc:=Ql) (aq,(0:Int))))
 (kN _ (mLen (sh:=Qd) a7.snd) fun ar=>(kIx (enc:=Qd) (l:=a7.snd) (k:=wr (ar - (1:Int))) fun au=>(kEr (enc:=Ql) (au,(0:Int)))))))))))))))))))
 (hB:=fun v1 ai=>(kEr (enc:=Ql) (ai.fst,ai.snd))))) h))
 (fun Ze QV Q3d Q3e x4 x6 a5 a6 a8 o h x3=>
 Lp2 (hs:=[(17,.split),(18,.e Q2),(23,.c Ql),(27,.split),(33,.z [{slot:=30,own:=5}] (some (.n Qd 33 (some .a))))]) (kb:=[kk 3,kk 4,{slot:=6,own:=5}]) (kbx:=[kk 3,kk 4,{slot:=6,fz:=true}]) ((kIfD (p:=a8<a6) (kIxR (l:=a5) (k:=a8) XD fun v0=>(kC (sh:=Ql) (Q3d v0) fun v1=>(kIf (c:=v1.snd !=(0:Int)) (kT (nM (sh:=Qd) x6) (kX (alts:=ZM (x0,x3) (a5,a6)) (.inr (v1.fst,v1.snd)) (.next (.here _ rfl (.cons (LeV.refl (AV.ip (5:Nat) [AV.agg [AV.sl (8:Nat) (List.map Q7 x0.fnest.fBufs),AV.sl (20:Nat) (List.map Qg x0.fnest.fBody),AV.sl (1:Nat) (List.map eS x0.floops),AV.sl (1:Nat) (List.map eS x0.fscope),AV.sl (1:Nat) (List.map eI x0.fpath)]] (0:Nat) (0:Nat))) (.cons (LeV.refl (AV.ptr (0:Nat) (0:Nat) (0:Nat))) (.cons (LeV.refl (AV.ptr (1:Nat) (0:Nat) (0:Nat))) (.cons (LeV.refl (ii v1.snd)) (.cons (LeV.undef (AV.sl (5:Nat) (List.map Qd x6))) .nil))))) (.refl _)))))
 (kA (q:=(x6.length+(1:Nat))*(40:Nat)≤(140737488355328:Nat)∧x6.length+(1:Nat)≤(9223372036854775807:Nat)) (sh:=Qd) (l:=x6) (kO (sh:=Qd) (x6++[v1.fst]) (mA (sh:=Qd) x6 v1.fst) (nA x6 v1.fst) fun v2=>(kM0 (alts:=ZM (x0,x3) (a5,a6)) (fun y hy=>Q3e x4 v2 a5 a6 (wr (a8+(1:Int))) y hy x3)))))))
 (kT (nM (sh:=Qd) x6) (kX (alts:=ZM (x0,x3) (a5,a6)) (.inl (x4,x6)) (.here _ rfl (.refl _) (.refl _))))) h))
theorem NF(x0:Q1)(x1:Q0)(r:(Q8×Int))(h:Ze x0 x1=some r):PU 124 [.ip 5 [.agg [.sl 8 (List.map Q7 x0.fnest.fBufs),.sl 20 (List.map Qg x0.fnest.fBody),.sl 1 (List.map eS x0.floops),.sl 1 (List.map eS x0.fscope),.sl 1 (List.map eI x0.fpath)]] 0 0,Q2 x1] (Ql r):=(Nt x0).1 x1 r h
def Uk(s:Int)(u:((List Q6)×Int))(o:Int):List Alt:=[⟨fun(x:Int)=>x=o,.exit 0,fun x=>[ii x],fun x=>[]⟩]
mutual
def VO(x0:Q0)(x1:Int):Option Int:=
 if x1≤(1:Int) then
 some x1
 else
 some (List.length x0.fArgs:Int)>>=fun v0=>
 some (x0.fArgs,v0)>>=fun v1=>
 Yj x1 (1:Int) x0.fArgs v0 (0:Int)>>=fun v3=>
 some v3
 partial_fixpoint
def Yj(x1:Int)(x5:Int)(a4:List Q6)(a5:Int)(a3:Int):Option Int:=
 if a3<a5 then
 Option.map Q6.f (ix a4 a3)>>=fun v0=>
 VO v0 (wr (x1 - (1:Int)))>>=fun v1=>
 Yj x1 (if true=true then max x5 (wr ((1:Int)+v1)) else min x5 (wr ((1:Int)+v1))) a4 a5 (wr (a3+(1:Int)))
 else
 some x5
 partial_fixpoint
end
theorem Sv:(∀(x0:Q0) (x1:Int) (r:Int),VO x0 x1=some r→PU 175 [Q2 x0,eI x1] (eI r))∧(∀(x1:Int) (x5:Int) (a3:List Q6) (a4:Int) (a6:Int) (o:Int),Yj x1 x5 a3 a4 a6=some o→LO 175 5 27 [1,5,12,13,14] [ii x1,ii x5,.sl 13 (List.map Qo a3),ii a4,ii a6] [] [5] (Uk x1 (a3,a4) o)):=
 VO.mutual_partial_correctness (fun x0 x1 r=>PU 175 [Q2 x0,eI x1] (eI r)) (fun x1 x5 a3 a4 a6 o=>LO 175 5 27 [1,5,12,13,14] [ii x1,ii x5,.sl 13 (List.map Qo a3),ii a4,ii a6] [] [5] (Uk x1 (a3,a4) o))
 (fun Yj Q31 x0 x1 r h=>
 Pu2 (hs:=[(9,.split),(13,.n eI 13 none),(3000006,.l [] [1,5,12,13,14] [] [5] [] (Uk x1))]) ((kIfD (p:=x1≤(1:Int)) (kEr (enc:=eI) x1)
 (kN _ (mLen (sh:=Qo) x0.fArgs) fun v0=>(kL1 (x0.fArgs,v0) (Q31 x1 (1:Int) x0.fArgs v0 (0:Int)) fun v1 v3=>(kEr (enc:=eI) v3)))) h))
 (fun VO Yj Q30 Q31 x1 x5 a3 a4 a6 o h=>
 Lp2 (hs:=[(15,.split),(16,.e Q2),(22,.c eI)]) (kb:=[]) (kbx:=[]) ((kIfD (p:=a6<a4) (kIxR (l:=a3) (k:=a6) XD fun v0=>(kC (sh:=eI) (Q30 v0 (wr (x1 - (1:Int)))) fun v1=>(kM0 (alts:=Uk x1 (a3,a4)) (Q31 x1 (if true=true then max x5 (wr ((1:Int)+v1)) else min x5 (wr ((1:Int)+v1))) a3 a4 (wr (a6+(1:Int)))))))
 (kX (alts:=Uk x1 (a3,a4)) x5 (.here _ rfl (.refl _) (.refl _)))) h))
theorem Av(x0:Q0)(x1:Int)(r:Int)(h:VO x0 x1=some r):PU 175 [Q2 x0,eI x1] (eI r):=(Sv).1 x0 x1 r h
def M2(x0:Q0):Option Int:=
 VO x0 (41:Int)>>=fun v0=>
 some v0
theorem Au(x0:Q0)(r:Int)(h:M2 x0=some r):PU 144 [Q2 x0] (eI r):=
 Pu2 (hs:=[(4,.c eI)]) ((kC (sh:=eI) (Av x0 (41:Int)) fun v0=>(kEr (enc:=eI) v0)) h)
def Gq(x0:gLin):Option Bool:=
 if x0.fK==(0:Int) then
 some (List.length x0.fL:Int)>>=fun v0=>
 some (v0==(0:Int))
 else
 some false
theorem Ia(x0:gLin)(r:Bool)(h:Gq x0=some r):PU 213 [Qh x0] (eB r):=
 Pu2 (hs:=[(5,.split),(9,.n eI 9 none)]) ((kIf (c:=x0.fK==(0:Int)) (kN _ (mLen (sh:=Qp) x0.fL) fun v0=>(kEr (enc:=eB) (v0==(0:Int))))
 (kEr (enc:=eB) false)) h)
def UL(x0:Qf):Option Bool:=
 if x0.fFrom==[] then
 some (List.length x0.fAt:Int)>>=fun v0=>
 some (v0==(0:Int))
 else
 Gq x0.fLin>>=fun v1=>
 some v1
theorem HS(x0:Qf)(r:Bool)(h:UL x0=some r):PU 216 [Q4 x0] (eB r):=
 Pu2 (hs:=[(5,.split),(8,.n eI 8 none),(12,.c eB)]) ((kIf (c:=x0.fFrom==[]) (kN _ (mLen (sh:=Qh) x0.fAt) fun v0=>(kEr (enc:=eB) (v0==(0:Int))))
 (kC (sh:=eB) (Ia x0.fLin) fun v1=>(kEr (enc:=eB) v1))) h)
def CP(x0:Qf):Option Bool:=
 UL x0>>=fun v0=>
 some (!v0)
theorem Ra(x0:Qf)(r:Bool)(h:CP x0=some r):PU 215 [Q4 x0] (eB r):=
 Pu2 (hs:=[(4,.c eB)]) ((kC (sh:=eB) (HS x0) fun v0=>(kEr (enc:=eB) (!v0))) h)
def Zb(s:List Qf)(u:Int)(o:Unit ⊕ Int):List Alt:=[⟨fun(x:Unit)=>(Sum.inl x:Unit ⊕ Int)=o,.exit 0,fun x=>[.undef],fun x=>[]⟩,⟨fun(x:Int)=>(Sum.inr x:Unit ⊕ Int)=o,.ret,fun x=>[ii x],fun x=>[]⟩]
def QQ(x0:List Qf)(x7:Int)(x8:Int):Option (Unit ⊕ Int):=
 if x8<x7 then
 ix x0 x8>>=fun v0=>
 CP v0>>=fun v1=>if v1 then
 some (.inr x8)
 else
 QQ x0 x7 (wr (x8+(1:Int)))
 else
 some (.inl ())
 partial_fixpoint
theorem GX(x0:List Qf)(x7:Int)(x8:Int)(o:Unit ⊕ Int)(h:QQ x0 x7 x8=some o):LO 261 2 19 [0,1,7,8] [.sl 4 (List.map Q4 x0),.fn 215 [],ii x7,ii x8] [] [4] (Zb x0 x7 o):=
 QQ.partial_correctness x0 x7 (fun x8 o=>LO 261 2 19 [0,1,7,8] [.sl 4 (List.map Q4 x0),.fn 215 [],ii x7,ii x8] [] [4] (Zb x0 x7 o))
 (fun QQ Q4x x8 o h=>
 Lp2 (hs:=[(9,.split),(14,.e Q4),(16,.cb)]) (kb:=[]) (kbx:=[]) ((kIfD (p:=x8<x7) (kIx (enc:=Q4) (l:=x0) (k:=x8) fun v0=>(kCb (Ra v0) (kX (alts:=Zb x0 x7) (.inr x8) (.next (.here _ rfl (.refl _) (.refl _))))
 (kM0 (alts:=Zb x0 x7) (Q4x (wr (x8+(1:Int)))))))
 (kX (alts:=Zb x0 x7) (.inl ()) (.here _ rfl (.refl _) (.refl _)))) h)) x8 o h
def K5(x0:List Qf):Option Int:=
 some (List.length x0:Int)>>=fun v0=>
 some v0>>=fun v1=>
 QQ x0 v0 (0:Int)>>=fun v2=>(match v2 with
 | (.inl v3)=>
 some (-1:Int)
 | (.inr v4)=>
 some v4)
theorem DT(x0:List Qf)(r:Int)(h:K5 x0=some r):PU 261 [Kn x0,.fn 215 []] (eI r):=
 Pu2 (hs:=[(7,.n eI 7 none),(3000003,.l [] [0,1,7,8] [] [4] [] (Zb x0))]) ((kN _ (mLen (sh:=Q4) x0) fun v0=>(kL2 v0 (hL:=(GX x0 v0 (0:Int))) (hA:=fun v1 v3=>(kEr (enc:=eI) (-1:Int)))
 (hB:=fun v1 v4=>(kEr (enc:=eI) v4)))) h)
def X3(x0:List Qf):Option Bool:=
 K5 x0>>=fun v0=>
 some (decide ((0:Int)≤v0))
theorem GS(x0:List Qf)(r:Bool)(h:X3 x0=some r):PU 214 [Kn x0,.fn 215 []] (eB r):=
 Pu2 (hs:=[(7,.c eI)]) ((kC (sh:=eI) (DT x0) fun v0=>(kEr (enc:=eB) (decide ((0:Int)≤v0)))) h)
def UE(s:Q0)(u:Unit)(o:(Bool×Bool)):List Alt:=[⟨fun(x:(Bool×Bool))=>x=o,.normal,fun x=>[.ptr 0 0 0,.bool (x.1),.bool (x.2)],fun x=>[.cells 0 (Q2 s).cells]⟩]
def Vw(s:Q0)(u:(Bool×Bool×Bool×Bool))(o:Bool):List Alt:=jb o (fun b=>[.ptr 0 0 0,.bool (u.1),.bool (u.2.1),.bool (u.2.2.1),.bool (u.2.2.2),.bool b]) [.cells 0 (Q2 s).cells]
def Vx(s:Q0)(u:(Bool×Bool×Bool))(o:Bool):List Alt:=jb o (fun b=>[.ptr 0 0 0,.bool (u.1),.bool (u.2.1),.bool (u.2.2),.bool b]) [.cells 0 (Q2 s).cells]
def Vy(s:Q0)(u:(Bool×Bool))(o:Bool):List Alt:=jb o (fun b=>[.ptr 0 0 0,.bool (u.1),.bool (u.2),.bool b]) [.cells 0 (Q2 s).cells]
def Vz(s:Q0)(u:Bool)(o:Bool):List Alt:=jb o (fun b=>[.ptr 0 0 0,.bool u,.bool b]) [.cells 0 (Q2 s).cells]
def K1(s:Q0)(u:Unit)(o:Bool):List Alt:=jb o (fun b=>[.ptr 0 0 0,.bool b]) [.cells 0 (Q2 s).cells]
def C9(x0:Q0):Option Bool:=
 some ()>>=fun v0=>
 (if x0.fOp==(1:Int) then
 some ((x0.fOp==(1:Int)),true)
 else
 some ((x0.fOp==(1:Int)),(x0.fOp==(12:Int))))>>=fun v2=>
 some (v2.fst,v2.snd,(x0.fOp==(2:Int)),(x0.fOp==(3:Int)))>>=fun v3=>
 (if x0.fOp< (1:Int) then
 some true
 else
 if(18:Int)<x0.fOp then
 some true
 else
 some false)>>=fun v4=>if v4 then
 some false
 else
 some (v3.snd.fst,v3.snd.snd.fst,v3.snd.snd.snd)>>=fun v7=>
 (if v3.fst then
 some false
 else
 some ((gVal.mk (0:Int) (0:Int)))>>=fun v9=>
 if !(x0.fVal.fN==v9.fN&& (x0.fVal.fD==v9.fD&&true)) then
 some true
 else
 some false)>>=fun v8=>if v8 then
 some false
 else
 some (v7.snd.fst,v7.snd.snd)>>=fun a5=>
 (if v7.fst then
 some false
 else
 some ((Q8.mk (0:Int) (0:Int) (0:Int) (0:Int) (0:Int)))>>=fun a4=>
 if !(x0.fType.fKind==a4.fKind&& (x0.fType.fBits==a4.fBits&& (x0.fType.fFrac==a4.fFrac&& (x0.fType.fRound==a4.fRound&& (x0.fType.fOver==a4.fOver&&true))))) then
 some true
 else
 some false)>>=fun a7=>if a7 then
 some false
 else
 some a5.snd>>=fun a8=>
 (if a5.fst then
 some false
 else
 Gq x0.fLin>>=fun aa=>if aa then
 some false
 else
 some true)>>=fun a9=>if a9 then
 some false
 else
 some ()>>=fun ah=>
 (if a8 then
 some false
 else
 if !x0.fName==[] then
 some true
 else
 some (List.length x0.fIdx:Int)>>=fun ac=>
 if(0:Int)<ac then
 some true
 else
 some false)>>=fun ab=>if ab then
 some false
 else
 X3 x0.fIdx>>=fun ad=>
 some (!ad)
theorem SH(x0:Q0)(r:Bool)(h:C9 x0=some r):PU 176 [Q2 x0] (eB r):=
 Pu2 (hs:=[(12,.split),(27,.split),(31,.split),(34,.split),(39,.n W8 39 none),(40,.split),(43,.split),(48,.n Qd 48 none),(49,.split),(52,.split),(57,.cb),(61,.split),(66,.split),(70,.n eI 70 none),(71,.split),(76,.c eB),(5000001,.l [] [] [] [1,3,4] [kk 1] (UE x0)),(5000003,.l [] [] [] [1,3,4,5,6,24] [kk 1] (Vw x0)),(5000005,.l [] [] [] [1,4,5,6,33] [kk 1] (Vx x0)),(5000007,.l [] [] [] [1,5,6,42] [kk 1] (Vy x0)),(5000009,.l [] [] [] [1,6,51] [kk 1] (Vz x0)),(5000011,.l [] [] [] [1,60] [kk 1] (K1 x0))]) ((kJ1 (id:=5000001) () (fun v0 ad v1=>(kIf (c:=x0.fOp==(1:Int)) (kXj (alts:=UE x0) ad ((x0.fOp==(1:Int)),true) (.here _ rfl (.refl _) (.refl _)))
 (kXj (alts:=UE x0) ad ((x0.fOp==(1:Int)),(x0.fOp==(12:Int))) (.here _ rfl (.refl _) (.refl _)))))
 (fun v0 v2=>(kJb (id:=5000003) (v2.fst,v2.snd,(x0.fOp==(2:Int)),(x0.fOp==(3:Int))) (fun v3 a9 v4=>(kIfD (p:=x0.fOp< (1:Int)) (kXj (alts:=Vw x0) a9 true (.here () rfl (.refl _) (.refl _)))
 (kIfD (p:=(18:Int)<x0.fOp) (kXj (alts:=Vw x0) a9 true (.here () rfl (.refl _) (.refl _)))
 (kXj (alts:=Vw x0) a9 false (.next (.here () rfl (.refl _) (.refl _)))))))
 (fun v3=>(kEr (enc:=eB) false))
 (fun v3=>(kJb (id:=5000005) (v3.snd.fst,v3.snd.snd.fst,v3.snd.snd.snd) (fun v7 aa v8=>(kIf (c:=v3.fst) (kXj (alts:=Vx x0) aa false (.next (.here () rfl (.refl _) (.refl _))))
 (kW (sh:=W8) (gVal.mk (0:Int) (0:Int)) lr fun v9=>(kIf (c:= !(x0.fVal.fN==v9.fN&& (x0.fVal.fD==v9.fD&&true))) (kXj (alts:=Vx x0) aa true (.here () rfl (.refl _) (.refl _)))
 (kXj (alts:=Vx x0) aa false (.next (.here () rfl (.refl _) (.refl _))))))))
 (fun v7=>(kEr (enc:=eB) false))
 (fun v7=>(kJb (id:=5000007) (v7.snd.fst,v7.snd.snd) (fun a8 a5 am=>(kIf (c:=v7.fst) (kXj (alts:=Vy x0) a5 false (.next (.here () rfl (.refl _) (.refl _))))
 (kW (sh:=Qd) (Q8.mk (0:Int) (0:Int) (0:Int) (0:Int) (0:Int)) lr fun a7=>(kIf (c:= !(x0.fType.fKind==a7.fKind&& (x0.fType.fBits==a7.fBits&& (x0.fType.fFrac==a7.fFrac&& (x0.fType.fRound==a7.fRound&& (x0.fType.fOver==a7.fOver&&true)))))) (kXj (alts:=Vy x0) a5 true (.here () rfl (.refl _) (.refl _)))
 (kXj (alts:=Vy x0) a5 false (.next (.here () rfl (.refl _) (.refl _))))))))
 (fun a8=>(kEr (enc:=eB) false))
 (fun a8=>(kJb (id:=5000009) a8.snd (fun ab a6 ao=>(kIf (c:=a8.fst) (kXj (alts:=Vz x0) a6 false (.next (.here () rfl (.refl _) (.refl _))))
 (kCb (Ia x0.fLin) (kXj (alts:=Vz x0) a6 false (.next (.here () rfl (.refl _) (.refl _))))
 (kXj (alts:=Vz x0) a6 true (.here () rfl (.refl _) (.refl _))))))
 (fun ab=>(kEr (enc:=eB) false))
 (fun ab=>(kJb (id:=5000011) () (fun ae a4 ap=>(kIf (c:=ab) (kXj (alts:=K1 x0) a4 false (.next (.here () rfl (.refl _) (.refl _))))
 (kIf (c:= !x0.fName==[]) (kXj (alts:=K1 x0) a4 true (.here () rfl (.refl _) (.refl _)))
 (kN _ (mLen (sh:=Q4) x0.fIdx) fun ag=>(kIfD (p:=(0:Int)<ag) (kXj (alts:=K1 x0) a4 true (.here () rfl (.refl _) (.refl _)))
 (kXj (alts:=K1 x0) a4 false (.next (.here () rfl (.refl _) (.refl _)))))))))
 (fun ae=>(kEr (enc:=eB) false))
 (fun ae=>(kC (sh:=eB) (GS x0.fIdx) fun ah=>(kEr (enc:=eB) (!ah))))))))))))))) h)
def ZH(s:(Int×Int))(u:Unit)(o:Bool):List Alt:=jb o (fun b=>[ii (s.1),ii (s.2),.bool b]) []
def KL(x0:Int)(x1:Int):Option Bool:=
 some ()>>=fun v0=>
 (if x0==(16:Int) then
 some true
 else
 if x0==(17:Int) then
 some true
 else
 if x0==(18:Int) then
 some true
 else
 some false)>>=fun v1=>if v1 then
 some true
 else
 if x0==(11:Int) then
 some (x1==(0:Int))
 else
 some false
theorem M4(x0:Int)(x1:Int)(r:Bool)(h:KL x0 x1=some r):PU 220 [eI x0,eI x1] (eB r):=
 Pu2 (hs:=[(6,.split),(6,.split),(6,.split),(11,.split),(6000004,.l [] [] [] [0,1,6] [] (ZH (x0,x1)))]) ((kJb (id:=6000004) () (fun v0 a4 v1=>(kIf (c:=x0==(16:Int)) (kXj (alts:=ZH (x0,x1)) a4 true (.here () rfl (.refl _) (.refl _)))
 (kIf (c:=x0==(17:Int)) (kXj (alts:=ZH (x0,x1)) a4 true (.here () rfl (.refl _) (.refl _)))
 (kIf (c:=x0==(18:Int)) (kXj (alts:=ZH (x0,x1)) a4 true (.here () rfl (.refl _) (.refl _)))
 (kXj (alts:=ZH (x0,x1)) a4 false (.next (.here () rfl (.refl _) (.refl _))))))))
 (fun v0=>(kEr (enc:=eB) true))
 (fun v0=>(kIf (c:=x0==(11:Int)) (kEr (enc:=eB) (x1==(0:Int)))
 (kEr (enc:=eB) false)))) h)
def J1(s:Q0)(u:((List Q6)×Int))(o:Unit ⊕ Bool):List Alt:=[⟨fun(x:Unit)=>(Sum.inl x:Unit ⊕ Bool)=o,.exit 0,fun x=>[.undef],fun x=>[]⟩,⟨fun(x:Bool)=>(Sum.inr x:Unit ⊕ Bool)=o,.ret,fun x=>[.bool x],fun x=>[]⟩]
def Yk(x1:Q0)(a4:List Q6)(a5:Int)(a3:Int):Option (Unit ⊕ Bool):=
 if a3<a5 then
 Option.map Q6.f (ix a4 a3)>>=fun v0=>
 YB v0>>=fun v1=>
 KL x1.fOp a3>>=fun v2=>
 if !v1==v2 then
 some (.inr false)
 else
 Yk x1 a4 a5 (wr (a3+(1:Int)))
 else
 some (.inl ())
 partial_fixpoint
theorem Rb(x1:Q0)(a3:List Q6)(a4:Int)(a5:Int)(o:Unit ⊕ Bool)(h:Yk x1 a3 a4 a5=some o):LO 179 4 35 [1,20,21,22] [.ptr 0 0 0,.sl 13 (List.map Qo a3),ii a4,ii a5] [.cells 0 (Q2 x1).cells] [2] (J1 x1 (a3,a4) o):=
 Yk.partial_correctness x1 a3 a4 (fun a5 o=>LO 179 4 35 [1,20,21,22] [.ptr 0 0 0,.sl 13 (List.map Qo a3),ii a4,ii a5] [.cells 0 (Q2 x1).cells] [2] (J1 x1 (a3,a4) o))
 (fun Yk Q32 a5 o h=>
 Lp2 (hs:=[(23,.split),(25,.e Q2),(28,.c eB),(32,.c eB),(33,.split)]) (kb:=[kk 1]) (kbx:=[]) ((kIfD (p:=a5<a4) (kIxR (l:=a3) (k:=a5) XD fun v0=>(kC (sh:=eB) (Ut v0) fun v1=>(kC (sh:=eB) (M4 x1.fOp a5) fun v2=>(kIf (c:= !v1==v2) (kX (alts:=J1 x1 (a3,a4)) (.inr false) (.next (.here _ rfl (.refl _) (.refl _))))
 (kM0 (alts:=J1 x1 (a3,a4)) (Q32 (wr (a5+(1:Int)))))))))
 (kX (alts:=J1 x1 (a3,a4)) (.inl ()) (.here _ rfl (.refl _) (.refl _)))) h)) a5 o h
def Yv(s:Q0)(u:Unit)(o:Bool):List Alt:=jb o (fun b=>[.ptr 0 0 0,.bool b]) [.cells 0 (Q2 s).cells]
def CQ(x0:Q0):Option Bool:=
 some ()>>=fun v0=>
 (if x0.fOp==(1:Int) then
 XZ x0.fType>>=fun v2=>
 if v2 !=(0:Int) then
 some true
 else
 some false
 else
 if x0.fOp==(12:Int) then
 XZ x0.fType>>=fun v3=>
 if v3 !=(0:Int) then
 some true
 else
 some false
 else
 some false)>>=fun v1=>if v1 then
 some false
 else
 some (List.length x0.fArgs:Int)>>=fun v6=>
 some (x0.fArgs,v6)>>=fun v7=>
 Yk x0 x0.fArgs v6 (0:Int)>>=fun v8=>(match v8 with
 | (.inl v9)=>
 some true
 | (.inr v10)=>
 some v10)
theorem Ay(x0:Q0)(r:Bool)(h:CQ x0=some r):PU 179 [Q2 x0] (eB r):=
 Pu2 (hs:=[(7,.split),(11,.split),(16,.c eI),(17,.split),(21,.n eI 21 none),(3000005,.l [] [1,20,21,22] [kk 1] [2] [] (J1 x0)),(5000001,.l [] [] [] [1,18] [kk 1] (Yv x0))]) ((kJb (id:=5000001) () (fun v0 a4 v1=>(kIf (c:=x0.fOp==(1:Int)) (kC (sh:=eI) (Jz x0.fType) fun v2=>(kIf (c:=v2 !=(0:Int)) (kXj (alts:=Yv x0) a4 true (.here () rfl (.refl _) (.refl _)))
 (kXj (alts:=Yv x0) a4 false (.next (.here () rfl (.refl _) (.refl _))))))
 (kIf (c:=x0.fOp==(12:Int)) (kC (sh:=eI) (Jz x0.fType) fun v3=>(kIf (c:=v3 !=(0:Int)) (kXj (alts:=Yv x0) a4 true (.here () rfl (.refl _) (.refl _)))
 (kXj (alts:=Yv x0) a4 false (.next (.here () rfl (.refl _) (.refl _))))))
 (kXj (alts:=Yv x0) a4 false (.next (.here () rfl (.refl _) (.refl _)))))))
 (fun v0=>(kEr (enc:=eB) false))
 (fun v0=>(kN _ (mLen (sh:=Qo) x0.fArgs) fun v6=>(kL2 (x0.fArgs,v6) (hL:=(Rb x0 x0.fArgs v6 (0:Int))) (hA:=fun v7 v9=>(kEr (enc:=eB) true))
 (hB:=fun v7 a5=>(kEr (enc:=eB) a5)))))) h)
def Qk(s:Unit)(u:Unit)(o:Bool):List Alt:=jb o (fun b=>[.bool b]) []
def Di(x0:Str):Option Bool:=
 some ()>>=fun v0=>
 (if x0==[(115:UInt8),(105:UInt8),(122:UInt8),(101:UInt8)] then
 some true
 else
 if x0==[(119:UInt8),(104:UInt8),(101:UInt8),(114:UInt8),(101:UInt8)] then
 some true
 else
 if x0==[(105:UInt8),(110:UInt8)] then
 some true
 else
 if x0==[(100:UInt8),(101:UInt8),(102:UInt8)] then
 some true
 else
 if x0==[(111:UInt8),(117:UInt8),(116:UInt8)] then
 some true
 else
 if x0==[(115:UInt8),(117:UInt8),(109:UInt8)] then
 some true
 else
 if x0==[(112:UInt8),(114:UInt8),(111:UInt8),(100:UInt8)] then
 some true
 else
 if x0==[(109:UInt8),(105:UInt8),(110:UInt8)] then
 some true
 else
 if x0==[(109:UInt8),(97:UInt8),(120:UInt8)] then
 some true
 else
 if x0==[(115:UInt8),(99:UInt8),(97:UInt8),(110:UInt8)] then
 some true
 else
 if x0==[(111:UInt8),(118:UInt8),(101:UInt8),(114:UInt8)] then
 some true
 else
 if x0==[(105:UInt8),(102:UInt8)] then
 some true
 else
 if x0==[(99:UInt8),(97:UInt8),(115:UInt8),(116:UInt8)] then
 some true
 else
 if x0==[(102:UInt8),(114:UInt8),(97:UInt8),(99:UInt8)] then
 some true
 else
 if x0==[(105:UInt8),(110:UInt8),(116:UInt8)] then
 some true
 else
 if x0==[(102:UInt8),(105:UInt8),(120:UInt8)] then
 some true
 else
 if x0==[(99:UInt8),(101:UInt8),(105:UInt8),(108:UInt8)] then
 some true
 else
 if x0==[(102:UInt8),(108:UInt8),(111:UInt8),(111:UInt8),(114:UInt8)] then
 some true
 else
 if x0==[(122:UInt8),(101:UInt8),(114:UInt8),(111:UInt8)] then
 some true
 else
 if x0==[(101:UInt8),(118:UInt8),(101:UInt8),(110:UInt8)] then
 some true
 else
 if x0==[(115:UInt8),(97:UInt8),(116:UInt8)] then
 some true
 else
 if x0==[(119:UInt8),(114:UInt8),(97:UInt8),(112:UInt8)] then
 some true
 else
 some false)>>=fun v1=>if v1 then
 some true
 else
 some false
theorem Tm(x0:Str)(r:Bool)(h:Di x0=some r):PU 262 [eS x0] (eB r):=
 Pu2 (hs:=[(4,.split),(4,.split),(4,.split),(4,.split),(4,.split),(4,.split),(4,.split),(4,.split),(4,.split),(4,.split),(4,.split),(4,.split),(4,.split),(4,.split),(4,.split),(4,.split),(4,.split),(4,.split),(4,.split),(4,.split),(4,.split),(4,.split),(6000004,.l [] [] [] [4] [] (Qk ()))]) ((kJb (id:=6000004) () (fun v0 a3 v1=>(kIf (c:=x0==[(115:UInt8),(105:UInt8),(122:UInt8),(101:UInt8)]) (kXj (alts:=Qk ()) a3 true (.here () rfl (.refl _) (.refl _)))
 (kIf (c:=x0==[(119:UInt8),(104:UInt8),(101:UInt8),(114:UInt8),(101:UInt8)]) (kXj (alts:=Qk ()) a3 true (.here () rfl (.refl _) (.refl _)))
 (kIf (c:=x0==[(105:UInt8),(110:UInt8)]) (kXj (alts:=Qk ()) a3 true (.here () rfl (.refl _) (.refl _)))
 (kIf (c:=x0==[(100:UInt8),(101:UInt8),(102:UInt8)]) (kXj (alts:=Qk ()) a3 true (.here () rfl (.refl _) (.refl _)))
 (kIf (c:=x0==[(111:UInt8),(117:UInt8),(116:UInt8)]) (kXj (alts:=Qk ()) a3 true (.here () rfl (.refl _) (.refl _)))
 (kIf (c:=x0==[(115:UInt8),(117:UInt8),(109:UInt8)]) (kXj (alts:=Qk ()) a3 true (.here () rfl (.refl _) (.refl _)))
 (kIf (c:=x0==[(112:UInt8),(114:UInt8),(111:UInt8),(100:UInt8)]) (kXj (alts:=Qk ()) a3 true (.here () rfl (.refl _) (.refl _)))
 (kIf (c:=x0==[(109:UInt8),(105:UInt8),(110:UInt8)]) (kXj (alts:=Qk ()) a3 true (.here () rfl (.refl _) (.refl _)))
 (kIf (c:=x0==[(109:UInt8),(97:UInt8),(120:UInt8)]) (kXj (alts:=Qk ()) a3 true (.here () rfl (.refl _) (.refl _)))
 (kIf (c:=x0==[(115:UInt8),(99:UInt8),(97:UInt8),(110:UInt8)]) (kXj (alts:=Qk ()) a3 true (.here () rfl (.refl _) (.refl _)))
 (kIf (c:=x0==[(111:UInt8),(118:UInt8),(101:UInt8),(114:UInt8)]) (kXj (alts:=Qk ()) a3 true (.here () rfl (.refl _) (.refl _)))
 (kIf (c:=x0==[(105:UInt8),(102:UInt8)]) (kXj (alts:=Qk ()) a3 true (.here () rfl (.refl _) (.refl _)))
 (kIf (c:=x0==[(99:UInt8),(97:UInt8),(115:UInt8),(116:UInt8)]) (kXj (alts:=Qk ()) a3 true (.here () rfl (.refl _) (.refl _)))
 (kIf (c:=x0==[(102:UInt8),(114:UInt8),(97:UInt8),(99:UInt8)]) (kXj (alts:=Qk ()) a3 true (.here () rfl (.refl _) (.refl _)))
 (kIf (c:=x0==[(105:UInt8),(110:UInt8),(116:UInt8)]) (kXj (alts:=Qk ()) a3 true (.here () rfl (.refl _) (.refl _)))
 (kIf (c:=x0==[(102:UInt8),(105:UInt8),(120:UInt8)]) (kXj (alts:=Qk ()) a3 true (.here () rfl (.refl _) (.refl _)))
 (kIf (c:=x0==[(99:UInt8),(101:UInt8),(105:UInt8),(108:UInt8)]) (kXj (alts:=Qk ()) a3 true (.here () rfl (.refl _) (.refl _)))
 (kIf (c:=x0==[(102:UInt8),(108:UInt8),(111:UInt8),(111:UInt8),(114:UInt8)]) (kXj (alts:=Qk ()) a3 true (.here () rfl (.refl _) (.refl _)))
 (kIf (c:=x0==[(122:UInt8),(101:UInt8),(114:UInt8),(111:UInt8)]) (kXj (alts:=Qk ()) a3 true (.here () rfl (.refl _) (.refl _)))
 (kIf (c:=x0==[(101:UInt8),(118:UInt8),(101:UInt8),(110:UInt8)]) (kXj (alts:=Qk ()) a3 true (.here () rfl (.refl _) (.refl _)))
 (kIf (c:=x0==[(115:UInt8),(97:UInt8),(116:UInt8)]) (kXj (alts:=Qk ()) a3 true (.here () rfl (.refl _) (.refl _)))
 (kIf (c:=x0==[(119:UInt8),(114:UInt8),(97:UInt8),(112:UInt8)]) (kXj (alts:=Qk ()) a3 true (.here () rfl (.refl _) (.refl _)))
 (kXj (alts:=Qk ()) a3 false (.next (.here () rfl (.refl _) (.refl _)))))))))))))))))))))))))))
 (fun v0=>(kEr (enc:=eB) true))
 (fun v0=>(kEr (enc:=eB) false))) h)
def YX(s:Str)(u:Int)(o:Unit ⊕ Bool):List Alt:=[⟨fun(x:Unit)=>(Sum.inl x:Unit ⊕ Bool)=o,.exit 0,fun x=>[.undef],fun x=>[]⟩,⟨fun(x:Bool)=>(Sum.inr x:Unit ⊕ Bool)=o,.ret,fun x=>[.bool x],fun x=>[]⟩]
def Qy(s:(Str×Int))(u:Int)(o:Bool):List Alt:=jb o (fun b=>[.str (s.1),ii (s.2),ii u,.bool b]) []
def Zq(x0:Str)(a5:Int)(a4:Int):Option (Unit ⊕ Bool):=
 if a4<a5 then
 ix x0 a4>>=fun v0=>
 some a4>>=fun v1=>
 (if(↑v0.toNat:Int)< (97:Int) then
 if(↑v0.toNat:Int)< (48:Int) then
 if(↑v0.toNat:Int) !=(95:Int) then
 some true
 else
 some false
 else
 if(57:Int)< (↑v0.toNat:Int) then
 if(↑v0.toNat:Int) !=(95:Int) then
 some true
 else
 some false
 else
 some false
 else
 if(122:Int)< (↑v0.toNat:Int) then
 if(↑v0.toNat:Int)< (48:Int) then
 if(↑v0.toNat:Int) !=(95:Int) then
 some true
 else
 some false
 else
 if(57:Int)< (↑v0.toNat:Int) then
 if(↑v0.toNat:Int) !=(95:Int) then
 some true
 else
 some false
 else
 some false
 else
 some false)>>=fun v2=>if v2 then
 some (.inr false)
 else
 Zq x0 a5 (wr (v1+(1:Int)))
 else
 some (.inl ())
 partial_fixpoint
theorem Ik(x0:Str)(a3:Int)(a6:Int)(o:Unit ⊕ Bool)(h:Zq x0 a3 a6=some o):LO 222 4 54 [0,28,29] [.str x0,ii a3,ii a6] [] [2] (YX x0 a3 o):=
 Zq.partial_correctness x0 a3 (fun a6 o=>LO 222 4 54 [0,28,29] [.str x0,ii a3,ii a6] [] [2] (YX x0 a3 o))
 (fun Zq Q36 a6 o h=>
 Lp2 (hs:=[(30,.split),(34,.u),(36,.split),(39,.split),(43,.split),(46,.split),(51,.split),(5000007,.l [] [] [] [0,28,29,52] [] (Qy (x0,a3)))]) (kb:=[]) (kbx:=[]) ((kIfD (p:=a6<a3) (kU (s:=x0) (k:=a6) fun v0=>(kJb (id:=5000007) a6 (fun v1 a4 v2=>(kIfD (p:=(↑v0.toNat:Int)< (97:Int)) (kIfD (p:=(↑v0.toNat:Int)< (48:Int)) (kIf (c:=(↑v0.toNat:Int) !=(95:Int)) (kXj (alts:=Qy (x0,a3)) a4 true (.here () rfl (.refl _) (.refl _)))
 (kXj (alts:=Qy (x0,a3)) a4 false (.next (.here () rfl (.refl _) (.refl _)))))
 (kIfD (p:=(57:Int)< (↑v0.toNat:Int)) (kIf (c:=(↑v0.toNat:Int) !=(95:Int)) (kXj (alts:=Qy (x0,a3)) a4 true (.here () rfl (.refl _) (.refl _)))
 (kXj (alts:=Qy (x0,a3)) a4 false (.next (.here () rfl (.refl _) (.refl _)))))
 (kXj (alts:=Qy (x0,a3)) a4 false (.next (.here () rfl (.refl _) (.refl _))))))
 (kIfD (p:=(122:Int)< (↑v0.toNat:Int)) (kIfD (p:=(↑v0.toNat:Int)< (48:Int)) (kIf (c:=(↑v0.toNat:Int) !=(95:Int)) (kXj (alts:=Qy (x0,a3)) a4 true (.here () rfl (.refl _) (.refl _)))
 (kXj (alts:=Qy (x0,a3)) a4 false (.next (.here () rfl (.refl _) (.refl _)))))
 (kIfD (p:=(57:Int)< (↑v0.toNat:Int)) (kIf (c:=(↑v0.toNat:Int) !=(95:Int)) (kXj (alts:=Qy (x0,a3)) a4 true (.here () rfl (.refl _) (.refl _)))
 (kXj (alts:=Qy (x0,a3)) a4 false (.next (.here () rfl (.refl _) (.refl _)))))
 (kXj (alts:=Qy (x0,a3)) a4 false (.next (.here () rfl (.refl _) (.refl _))))))
 (kXj (alts:=Qy (x0,a3)) a4 false (.next (.here () rfl (.refl _) (.refl _)))))))
 (fun v1=>(kX (alts:=YX x0 a3) (.inr false) (.next (.here _ rfl (.refl _) (.refl _)))))
 (fun v1=>(kM0 (alts:=YX x0 a3) (Q36 (wr (v1+(1:Int))))))))
 (kX (alts:=YX x0 a3) (.inl ()) (.here _ rfl (.refl _) (.refl _)))) h)) a6 o h
def ZB(s:Str)(u:Unit)(o:Bool):List Alt:=jb o (fun b=>[.str s,.bool b]) []
def Gg(x0:Str):Option Bool:=
 some ()>>=fun v0=>
 (if(↑(List.length x0):Int)< (1:Int) then
 some true
 else
 if(16:Int)< (↑(List.length x0):Int) then
 some true
 else
 Di x0>>=fun v2=>if v2 then
 some true
 else
 ix x0 (0:Int)>>=fun v3=>
 if(↑v3.toNat:Int)< (97:Int) then
 some true
 else
 ix x0 (0:Int)>>=fun v4=>
 if(122:Int)< (↑v4.toNat:Int) then
 some true
 else
 some false)>>=fun v1=>if v1 then
 some false
 else
 some (↑(List.length x0):Int)>>=fun v7=>
 Zq x0 (↑(List.length x0):Int) (0:Int)>>=fun v8=>(match v8 with
 | (.inl v9)=>
 some true
 | (.inr v10)=>
 some v10)
theorem Ew(x0:Str)(r:Bool)(h:Gg x0=some r):PU 222 [eS x0] (eB r):=
 Pu2 (hs:=[(7,.split),(11,.split),(15,.cb),(19,.u),(20,.split),(24,.u),(25,.split),(3000005,.l [] [0,28,29] [] [2] [] (YX x0)),(5000001,.l [] [] [] [0,26] [] (ZB x0))]) ((kJb (id:=5000001) () (fun v0 a4 v1=>(kIfD (p:=(↑(List.length x0):Int)< (1:Int)) (kXj (alts:=ZB x0) a4 true (.here () rfl (.refl _) (.refl _)))
 (kIfD (p:=(16:Int)< (↑(List.length x0):Int)) (kXj (alts:=ZB x0) a4 true (.here () rfl (.refl _) (.refl _)))
 (kCb (Tm x0) (kXj (alts:=ZB x0) a4 true (.here () rfl (.refl _) (.refl _)))
 (kU (s:=x0) (k:=(0:Int)) fun v3=>(kIfD (p:=(↑v3.toNat:Int)< (97:Int)) (kXj (alts:=ZB x0) a4 true (.here () rfl (.refl _) (.refl _)))
 (kU (s:=x0) (k:=(0:Int)) fun v4=>(kIfD (p:=(122:Int)< (↑v4.toNat:Int)) (kXj (alts:=ZB x0) a4 true (.here () rfl (.refl _) (.refl _)))
 (kXj (alts:=ZB x0) a4 false (.next (.here () rfl (.refl _) (.refl _))))))))))))
 (fun v0=>(kEr (enc:=eB) false))
 (fun v0=>(kL2 (↑(List.length x0):Int) (hL:=(Ik x0 (↑(List.length x0):Int) (0:Int))) (hA:=fun v7 v9=>(kEr (enc:=eB) true))
 (hB:=fun v7 a5=>(kEr (enc:=eB) a5))))) h)
def KS(s:gLin)(u:((List Zp)×Int))(o:Unit ⊕ Int):List Alt:=[⟨fun(x:Unit)=>(Sum.inl x:Unit ⊕ Int)=o,.exit 0,fun x=>[.undef],fun x=>[]⟩,⟨fun(x:Int)=>(Sum.inr x:Unit ⊕ Int)=o,.ret,fun x=>[ii x],fun x=>[]⟩]
def XJ(s:(gLin× (List Zp)×Int))(u:Int)(o:Bool):List Alt:=jb o (fun b=>[.ptr 0 0 0,.sl 2 (List.map Qp (s.2.1)),ii (s.2.2),ii u,.bool b]) [.cells 0 (Qh (s.1)).cells]
def Xm(x1:gLin)(x6:List Zp)(x7:Int)(x8:Int):Option (Unit ⊕ Int):=
 if x8<x7 then
 ix x6 x8>>=fun v0=>
 some x8>>=fun v1=>
 (Gg v0.fName>>=fun v3=>if v3 then
 if v0.fBy==(0:Int) then
 some true
 else
 if(0:Int)<x8 then
 ix x1.fL (wr (x8 - (1:Int)))>>=fun v4=>
 if !Op.bytesLess v4.fName v0.fName then
 some true
 else
 some false
 else
 some false
 else
 some true)>>=fun v2=>if v2 then
 some (.inr (1:Int))
 else
 Xm x1 x6 x7 (wr (v1+(1:Int)))
 else
 some (.inl ())
 partial_fixpoint
theorem HU(x1:gLin)(x6:List Zp)(x7:Int)(x8:Int)(o:Unit ⊕ Int)(h:Xm x1 x6 x7 x8=some o):LO 181 2 39 [1,6,7,8] [.ptr 0 0 0,.sl 2 (List.map Qp x6),ii x7,ii x8] [.cells 0 (Qh x1).cells] [2] (KS x1 (x6,x7) o):=
 Xm.partial_correctness x1 x6 x7 (fun x8 o=>LO 181 2 39 [1,6,7,8] [.ptr 0 0 0,.sl 2 (List.map Qp x6),ii x7,ii x8] [.cells 0 (Qh x1).cells] [2] (KS x1 (x6,x7) o))
 (fun Xm Q35 x8 o h=>
 Lp2 (hs:=[(9,.split),(11,.e Qp),(15,.cb),(20,.split),(24,.split),(30,.e Qp),(35,.split),(5000004,.l [] [] [] [1,6,7,8,37] [kk 1] (XJ (x1,x6,x7)))]) (kb:=[kk 1]) (kbx:=[]) ((kIfD (p:=x8<x7) (kIx (enc:=Qp) (l:=x6) (k:=x8) fun v0=>(kJb (id:=5000004) x8 (fun v1 a6 v2=>(kCb (Ew v0.fName) (kIf (c:=v0.fBy==(0:Int)) (kXj (alts:=XJ (x1,x6,x7)) a6 true (.here () rfl (.refl _) (.refl _)))
 (kIfD (p:=(0:Int)<x8) (kIx (enc:=Qp) (l:=x1.fL) (k:=wr (x8 - (1:Int))) fun v4=>(kIf (c:= !Op.bytesLess v4.fName v0.fName) (kXj (alts:=XJ (x1,x6,x7)) a6 true (.here () rfl (.refl _) (.refl _)))
 (kXj (alts:=XJ (x1,x6,x7)) a6 false (.next (.here () rfl (.refl _) (.refl _))))))
 (kXj (alts:=XJ (x1,x6,x7)) a6 false (.next (.here () rfl (.refl _) (.refl _))))))
 (kXj (alts:=XJ (x1,x6,x7)) a6 true (.here () rfl (.refl _) (.refl _)))))
 (fun v1=>(kX (alts:=KS x1 (x6,x7)) (.inr (1:Int)) (.next (.here _ rfl (.refl _) (.refl _)))))
 (fun v1=>(kM0 (alts:=KS x1 (x6,x7)) (Q35 (wr (v1+(1:Int))))))))
 (kX (alts:=KS x1 (x6,x7)) (.inl ()) (.here _ rfl (.refl _) (.refl _)))) h)) x8 o h
def Dh(x0:gLin):Option Int:=
 some (List.length x0.fL:Int)>>=fun v0=>
 some (x0.fL,v0)>>=fun v1=>
 Xm x0 x0.fL v0 (0:Int)>>=fun v2=>(match v2 with
 | (.inl v3)=>
 some (0:Int)
 | (.inr v4)=>
 some v4)
theorem Tl(x0:gLin)(r:Int)(h:Dh x0=some r):PU 181 [Qh x0] (eI r):=
 Pu2 (hs:=[(7,.n eI 7 none),(3000003,.l [] [1,6,7,8] [kk 1] [2] [] (KS x0))]) ((kN _ (mLen (sh:=Qp) x0.fL) fun v0=>(kL2 (x0.fL,v0) (hL:=(HU x0 x0.fL v0 (0:Int))) (hA:=fun v1 v3=>(kEr (enc:=eI) (0:Int)))
 (hB:=fun v1 v4=>(kEr (enc:=eI) v4)))) h)
def Yz(s:Unit)(u:Int)(o:Bool):List Alt:=jb o (fun b=>[ii u,.bool b]) []
def YA(s:Unit)(u:Int)(o:Bool):List Alt:=jb o (fun b=>[ii u,.bool b]) []
def GH(x0:Int):Option Int:=
 some x0>>=fun v0=>
 (if x0==(1:Int) then
 some true
 else
 if x0==(2:Int) then
 some true
 else
 if x0==(3:Int) then
 some true
 else
 some false)>>=fun v1=>if v1 then
 some (0:Int)
 else
 some v0>>=fun v4=>
 (if v0==(8:Int) then
 some true
 else
 if v0==(12:Int) then
 some true
 else
 if v0==(18:Int) then
 some true
 else
 some false)>>=fun v5=>if v5 then
 some (1:Int)
 else
 if v4==(11:Int) then
 some (3:Int)
 else
 some (2:Int)
theorem R9(x0:Int)(r:Int)(h:GH x0=some r):PU 218 [eI x0] (eI r):=
 Pu2 (hs:=[(4,.split),(4,.split),(4,.split),(8,.split),(8,.split),(8,.split),(13,.split),(6000004,.l [] [] [] [3,4] [] (Yz ())),(6000008,.l [] [] [] [3,8] [] (YA ()))]) ((kJb (id:=6000004) x0 (fun v0 a3 v1=>(kIf (c:=x0==(1:Int)) (kXj (alts:=Yz ()) a3 true (.here () rfl (.refl _) (.refl _)))
 (kIf (c:=x0==(2:Int)) (kXj (alts:=Yz ()) a3 true (.here () rfl (.refl _) (.refl _)))
 (kIf (c:=x0==(3:Int)) (kXj (alts:=Yz ()) a3 true (.here () rfl (.refl _) (.refl _)))
 (kXj (alts:=Yz ()) a3 false (.next (.here () rfl (.refl _) (.refl _))))))))
 (fun v0=>(kEr (enc:=eI) (0:Int)))
 (fun v0=>(kJb (id:=6000008) v0 (fun v4 a4 v5=>(kIf (c:=v0==(8:Int)) (kXj (alts:=YA ()) a4 true (.here () rfl (.refl _) (.refl _)))
 (kIf (c:=v0==(12:Int)) (kXj (alts:=YA ()) a4 true (.here () rfl (.refl _) (.refl _)))
 (kIf (c:=v0==(18:Int)) (kXj (alts:=YA ()) a4 true (.here () rfl (.refl _) (.refl _)))
 (kXj (alts:=YA ()) a4 false (.next (.here () rfl (.refl _) (.refl _))))))))
 (fun v4=>(kEr (enc:=eI) (1:Int)))
 (fun v4=>(kIf (c:=v4==(11:Int)) (kEr (enc:=eI) (3:Int))
 (kEr (enc:=eI) (2:Int))))))) h)
end Go.Proofs.YtolcgikajjkjgaaGreatDoor
end
noncomputable section
namespace Go.Proofs.YtolcgikajjkjgaaGreatDoor
open Go HY
set_option maxRecDepth 1000000
set_option linter.unusedVariables false
def Ws(x0:Qf):Option Bool:=
 if !x0.fFrom==[] then
 Vo x0.fFrom>>=fun v0=>
 some (!v0)
 else
 some false
theorem Ti(x0:Qf)(r:Bool)(h:Ws x0=some r):PU 217 [Q4 x0] (eB r):=
 Pu2 (hs:=[(5,.split),(9,.c eB)]) ((kIf (c:= !x0.fFrom==[]) (kC (sh:=eB) (Dl x0.fFrom) fun v0=>(kEr (enc:=eB) (!v0)))
 (kEr (enc:=eB) false)) h)
def Zc(s:List Qf)(u:Int)(o:Unit ⊕ Int):List Alt:=[⟨fun(x:Unit)=>(Sum.inl x:Unit ⊕ Int)=o,.exit 0,fun x=>[.undef],fun x=>[]⟩,⟨fun(x:Int)=>(Sum.inr x:Unit ⊕ Int)=o,.ret,fun x=>[ii x],fun x=>[]⟩]
def QR(x0:List Qf)(x7:Int)(x8:Int):Option (Unit ⊕ Int):=
 if x8<x7 then
 ix x0 x8>>=fun v0=>
 Ws v0>>=fun v1=>if v1 then
 some (.inr x8)
 else
 QR x0 x7 (wr (x8+(1:Int)))
 else
 some (.inl ())
 partial_fixpoint
theorem GY(x0:List Qf)(x7:Int)(x8:Int)(o:Unit ⊕ Int)(h:QR x0 x7 x8=some o):LO 261 2 19 [0,1,7,8] [.sl 4 (List.map Q4 x0),.fn 217 [],ii x7,ii x8] [] [4] (Zc x0 x7 o):=
 QR.partial_correctness x0 x7 (fun x8 o=>LO 261 2 19 [0,1,7,8] [.sl 4 (List.map Q4 x0),.fn 217 [],ii x7,ii x8] [] [4] (Zc x0 x7 o))
 (fun QR Q4y x8 o h=>
 Lp2 (hs:=[(9,.split),(14,.e Q4),(16,.cb)]) (kb:=[]) (kbx:=[]) ((kIfD (p:=x8<x7) (kIx (enc:=Q4) (l:=x0) (k:=x8) fun v0=>(kCb (Ti v0) (kX (alts:=Zc x0 x7) (.inr x8) (.next (.here _ rfl (.refl _) (.refl _))))
 (kM0 (alts:=Zc x0 x7) (Q4y (wr (x8+(1:Int)))))))
 (kX (alts:=Zc x0 x7) (.inl ()) (.here _ rfl (.refl _) (.refl _)))) h)) x8 o h
def K6(x0:List Qf):Option Int:=
 some (List.length x0:Int)>>=fun v0=>
 some v0>>=fun v1=>
 QR x0 v0 (0:Int)>>=fun v2=>(match v2 with
 | (.inl v3)=>
 some (-1:Int)
 | (.inr v4)=>
 some v4)
theorem DU(x0:List Qf)(r:Int)(h:K6 x0=some r):PU 261 [Kn x0,.fn 217 []] (eI r):=
 Pu2 (hs:=[(7,.n eI 7 none),(3000003,.l [] [0,1,7,8] [] [4] [] (Zc x0))]) ((kN _ (mLen (sh:=Q4) x0) fun v0=>(kL2 v0 (hL:=(GY x0 v0 (0:Int))) (hA:=fun v1 v3=>(kEr (enc:=eI) (-1:Int)))
 (hB:=fun v1 v4=>(kEr (enc:=eI) v4)))) h)
def X4(x0:List Qf):Option Bool:=
 K6 x0>>=fun v0=>
 some (decide ((0:Int)≤v0))
theorem GU(x0:List Qf)(r:Bool)(h:X4 x0=some r):PU 214 [Kn x0,.fn 217 []] (eB r):=
 Pu2 (hs:=[(7,.c eI)]) ((kC (sh:=eI) (DU x0) fun v0=>(kEr (enc:=eB) (decide ((0:Int)≤v0)))) h)
def J0(s:Q0)(u:Unit)(o:Bool):List Alt:=jb o (fun b=>[.ptr 0 0 0,.bool b]) [.cells 0 (Q2 s).cells]
def CN(x0:Q0):Option Bool:=
 some ()>>=fun v0=>
 (if x0.fOp==(3:Int) then
 Vo x0.fName>>=fun v2=>if v2 then
 some false
 else
 some true
 else
 some false)>>=fun v1=>if v1 then
 some false
 else
 X4 x0.fIdx>>=fun v5=>
 some (!v5)
theorem Ax(x0:Q0)(r:Bool)(h:CN x0=some r):PU 177 [Q2 x0] (eB r):=
 Pu2 (hs:=[(5,.split),(9,.cb),(14,.c eB),(5000001,.l [] [] [] [1,11] [kk 1] (J0 x0))]) ((kJb (id:=5000001) () (fun v0 a4 v1=>(kIf (c:=x0.fOp==(3:Int)) (kCb (Dl x0.fName) (kXj (alts:=J0 x0) a4 false (.next (.here () rfl (.refl _) (.refl _))))
 (kXj (alts:=J0 x0) a4 true (.here () rfl (.refl _) (.refl _))))
 (kXj (alts:=J0 x0) a4 false (.next (.here () rfl (.refl _) (.refl _))))))
 (fun v0=>(kEr (enc:=eB) false))
 (fun v0=>(kC (sh:=eB) (GU x0.fIdx) fun v5=>(kEr (enc:=eB) (!v5))))) h)
end Go.Proofs.YtolcgikajjkjgaaGreatDoor
end
noncomputable section
namespace Go.Proofs.YtolcgikajjkjgaaGreatDoor
open Go HY
set_option maxRecDepth 1000000
set_option linter.unusedVariables false
def Nn(x0:Qf):Option Bool:=
 some (List.length x0.fAt:Int)>>=fun v0=>
 some (decide ((6:Int)<v0))
theorem SG(x0:Qf)(r:Bool)(h:Nn x0=some r):PU 219 [Q4 x0] (eB r):=
 Pu2 (hs:=[(5,.n eI 5 none)]) ((kN _ (mLen (sh:=Qh) x0.fAt) fun v0=>(kEr (enc:=eB) (decide ((6:Int)<v0)))) h)
def Zd(s:List Qf)(u:Int)(o:Unit ⊕ Int):List Alt:=[⟨fun(x:Unit)=>(Sum.inl x:Unit ⊕ Int)=o,.exit 0,fun x=>[.undef],fun x=>[]⟩,⟨fun(x:Int)=>(Sum.inr x:Unit ⊕ Int)=o,.ret,fun x=>[ii x],fun x=>[]⟩]
def QS(x0:List Qf)(x7:Int)(x8:Int):Option (Unit ⊕ Int):=
 if x8<x7 then
 ix x0 x8>>=fun v0=>
 Nn v0>>=fun v1=>if v1 then
 some (.inr x8)
 else
 QS x0 x7 (wr (x8+(1:Int)))
 else
 some (.inl ())
 partial_fixpoint
theorem GZ(x0:List Qf)(x7:Int)(x8:Int)(o:Unit ⊕ Int)(h:QS x0 x7 x8=some o):LO 261 2 19 [0,1,7,8] [.sl 4 (List.map Q4 x0),.fn 219 [],ii x7,ii x8] [] [4] (Zd x0 x7 o):=
 QS.partial_correctness x0 x7 (fun x8 o=>LO 261 2 19 [0,1,7,8] [.sl 4 (List.map Q4 x0),.fn 219 [],ii x7,ii x8] [] [4] (Zd x0 x7 o))
 (fun QS Q4z x8 o h=>
 Lp2 (hs:=[(9,.split),(14,.e Q4),(16,.cb)]) (kb:=[]) (kbx:=[]) ((kIfD (p:=x8<x7) (kIx (enc:=Q4) (l:=x0) (k:=x8) fun v0=>(kCb (SG v0) (kX (alts:=Zd x0 x7) (.inr x8) (.next (.here _ rfl (.refl _) (.refl _))))
 (kM0 (alts:=Zd x0 x7) (Q4z (wr (x8+(1:Int)))))))
 (kX (alts:=Zd x0 x7) (.inl ()) (.here _ rfl (.refl _) (.refl _)))) h)) x8 o h
def K7(x0:List Qf):Option Int:=
 some (List.length x0:Int)>>=fun v0=>
 some v0>>=fun v1=>
 QS x0 v0 (0:Int)>>=fun v2=>(match v2 with
 | (.inl v3)=>
 some (-1:Int)
 | (.inr v4)=>
 some v4)
theorem DV(x0:List Qf)(r:Int)(h:K7 x0=some r):PU 261 [Kn x0,.fn 219 []] (eI r):=
 Pu2 (hs:=[(7,.n eI 7 none),(3000003,.l [] [0,1,7,8] [] [4] [] (Zd x0))]) ((kN _ (mLen (sh:=Q4) x0) fun v0=>(kL2 v0 (hL:=(GZ x0 v0 (0:Int))) (hA:=fun v1 v3=>(kEr (enc:=eI) (-1:Int)))
 (hB:=fun v1 v4=>(kEr (enc:=eI) v4)))) h)
def X5(x0:List Qf):Option Bool:=
 K7 x0>>=fun v0=>
 some (decide ((0:Int)≤v0))
theorem GV(x0:List Qf)(r:Bool)(h:X5 x0=some r):PU 214 [Kn x0,.fn 219 []] (eB r):=
 Pu2 (hs:=[(7,.c eI)]) ((kC (sh:=eI) (DV x0) fun v0=>(kEr (enc:=eB) (decide ((0:Int)≤v0)))) h)
def Ju(s:Q0)(u:Unit)(o:Bool):List Alt:=jb o (fun b=>[.ptr 0 0 0,.bool b]) [.cells 0 (Q2 s).cells]
def WP(x0:Q0):Option Bool:=
 some ()>>=fun v0=>
 (GH x0.fOp>>=fun v2=>
 some (List.length x0.fArgs:Int)>>=fun v3=>
 if v3 !=v2 then
 some true
 else
 some (List.length x0.fIdx:Int)>>=fun v4=>
 if(6:Int)<v4 then
 some true
 else
 some false)>>=fun v1=>if v1 then
 some false
 else
 X5 x0.fIdx>>=fun v7=>
 some (!v7)
theorem Ps(x0:Q0)(r:Bool)(h:WP x0=some r):PU 178 [Q2 x0] (eB r):=
 Pu2 (hs:=[(5,.n eI 5 none),(8,.c eI),(9,.split),(13,.n eI 13 none),(14,.split),(18,.c eB),(5000001,.l [] [] [] [1,15] [kk 1] (Ju x0))]) ((kJb (id:=5000001) () (fun v0 a4 v1=>(kC (sh:=eI) (R9 x0.fOp) fun v2=>(kN _ (mLen (sh:=Qo) x0.fArgs) fun v3=>(kIf (c:=v3 !=v2) (kXj (alts:=Ju x0) a4 true (.here () rfl (.refl _) (.refl _)))
 (kN _ (mLen (sh:=Q4) x0.fIdx) fun v4=>(kIfD (p:=(6:Int)<v4) (kXj (alts:=Ju x0) a4 true (.here () rfl (.refl _) (.refl _)))
 (kXj (alts:=Ju x0) a4 false (.next (.here () rfl (.refl _) (.refl _))))))))))
 (fun v0=>(kEr (enc:=eB) false))
 (fun v0=>(kC (sh:=eB) (GV x0.fIdx) fun v7=>(kEr (enc:=eB) (!v7))))) h)
end Go.Proofs.YtolcgikajjkjgaaGreatDoor
end
section
namespace Go.Proofs.YtolcgikajjkjgaaGreatDoor
open Go HY
set_option maxRecDepth 1000000
set_option linter.unusedVariables false
abbrev NxR(f r n:Nat)(ks:List Nat)(vs:List AV)(alts:List Alt)(xs:List (List AV))(bs:List Box):Prop:=NxtR Tryz.prog gls [] n (rng Tryz.prog f (r+1)).1 (rng Tryz.prog f (r+1)).2.1 (rng Tryz.prog f (r+1)).2.2 ks vs alts xs bs
section
variable {ρ : Type} {r : ρ}
theorem kIfE{c:Bool}{x y:Option ρ}{A B:Prop}(hA:c=true→x=some r→A)(hB:y=some r→B)(h:(if c=true then x else y)=some r):(c=true→A)∧(c=false→B):=by
 cases c with
 |true=>exact⟨fun _=>hA rfl h,nofun⟩
 |false=>exact⟨nofun,fun _=>hB h⟩
theorem kRg{α υ:Type}{x:Option α}{k:α→Option ρ}{IT:List (List AV)→Prop}{R:List (List AV)→υ→α→Prop}{A:α→Prop}(xs:List (List AV))(u:υ)(a3:IT xs)(hR:∀v,x=some v→R xs u v)(hA:∀v,k v=some r→A v)(h:(x>>=k)=some r):∃xs u o,IT xs∧R xs u o∧A o:=by
 cases x with
 |none=>cases h
 |some v=>exact⟨xs,u,v,a3,hR v rfl,hA v h⟩
theorem kNx{f r' n:Nat}{ks:List Nat}{vs:List AV}{α:Type}{alts:α→List Alt}{xs:List (List AV)}{bs:List Box}{x:Option α}{o:α}(hR:∀o,x=some o→RG f r' n ks vs (alts o) xs bs)(h:x=some o):LeVs vs vs∧NxR f r' n ks vs (alts o) xs bs:=⟨.refl _,⟨bs,.refl _,hR o h⟩⟩
theorem kOt{α:Type}{alts:α→List Alt}{e:Exit}{vs:List AV}{bs:List Box}{o:α}(v:α)(hO:Out (alts v) e vs bs)(h:some v=some o):LeVs vs vs∧Out (alts o) e vs bs:=by cases h;exact⟨.refl _,hO⟩
end
def DO(u:Unit)(o:Int):List Alt:=[⟨fun(x:Int)=>x=o,.normal,fun x=>[.ptr 0 0 0],fun x=>[.cells 0 [.int .i64 x]]⟩,⟨fun(x:Int)=>x=o,.exit 0,fun x=>[.ptr 0 0 0],fun x=>[.cells 0 [.int .i64 x]]⟩]
noncomputable def Uc:List Q6→Int→Option Int
 | [],c=>some c
 |e::t,c=>some (wr (c+1))>>=fun n=>if(2000:Int)<n then some n else Uc t n
theorem I9:∀(l:List Q6) (c o:Int),Uc l c=some o→RG 145 3 12 [3] [.ptr 0 0 0] (DO () o) (l.map fun y=>[Q2 y.f]) [.cells 0 [.int .i64 c]]
 | [],c,o,h=>by
  cases h;exact Rg0 rfl (.here _ rfl (.refl _) (.refl _))
 |e::t,c,o,h=>Rg1 (hs:=[(8,.n eI 8 none),(10,.split)]) (kb:=[{slot:=3}]) (kbx:=[{slot:=3}]) (by kernel_rfl) (by kernel_rfl)
  (kN _ (rfl:wr (c+1)=_) (fun n=>kIfD (p:=(2000:Int)<n) (kOt (alts:=DO ()) n (.next (.here _ rfl (.refl _) (.refl _)))) (kNx (f:=145) (r':=3) (n:=12) (ks:=[3]) (vs:=[.ptr 0 0 0]) (alts:=DO ()) (xs:=t.map fun y=>[Q2 y.f]) (bs:=[.cells 0 [.int .i64 n]]) (I9 t n))) h)
noncomputable def WO(x0:Q0):Option Int:=Gz x0>>=fun w=>Uc (Z1 (.mk w.1)) 0>>=fun v=>some v
theorem Pr(x0:Q0)(r:Int)(h:WO x0=some r):PU 145 [Q2 x0] (eI r):=
 Pu1 (hs:=[(5,.c Mc),(4000004,.l [] [3] [{slot:=3}] [3] [{slot:=3}] DO)]) (by kernel_rfl)
  (kC (sh:=Mc) (MN x0) (fun w=>kRg (IT:=fun xs=>ItOk Tryz.prog gls 147 [.ip 13 [Q2 w.1] 0 0] xs) (R:=fun xs (u:Unit) o=>RG 145 3 12 [3] [.ptr 0 0 0] (DO u o) xs [.cells 0 [.int .i64 0]]) (A:=fun o=>(∀x:Int,x=o→LeT (eI x) (eI r))∧∀x:Int,x=o→LeT (eI x) (eI r)) _ () (Ta w) (I9 _ 0)
   (fun v h=>by cases h;exact⟨fun x e=>by subst e;exact .refl _,fun x e=>by subst e;exact .refl _⟩)) h)
def X6(i:Qf):List gLin:=i.fLin::i.fAt
def JA(x:Q0):List gLin:=x.fLin::(x.fIdx.map X6).flatten
abbrev Rq:= {x:Q0//x.fIdx.length≤4611686018427387904∧∀i∈x.fIdx,i.fAt.length≤4611686018427387904}
def Hu(x:Rq):AV:=.fn 221 [.ip 13 [Q2 x.1] 0 0]
theorem fr_in{l:Nat}{xs:List (List AV)}{m n:Nat}{b:List Qf}{nb ib:Int}{a:List gLin}(hn:a.length=n)(a4:n≤4611686018427387904):
  ∀(t p:List gLin) (k:Nat),a=p++t→k+t.length=m→(∀(j:Nat) (y:gLin),t[j]? =some y→xs[k+j]? =some [Qh y])→
   JLo 221 6 37 l xs [0,13,14,15,25,26,27] [yvl l,.sl 4 (b.map Q4),.int .i64 nb,.int .i64 ib,.sl 2 (a.map Qh),.int .i64 n,.int .i64 p.length] [] (some k) [0,13,14,15] (.exit 2,[yvl l,.sl 4 (b.map Q4),.int .i64 nb,.int .i64 ib]) (.ret,[yvl l,.sl 4 (b.map Q4),.int .i64 nb,.int .i64 ib]) m
 |t,p,k,ha,hm,hx=>by
  refine JL1 (φ:=(decide ((p.length:Int)<n)=true→∃x:gLin,((0:Int)≤p.length∧(a.map Qh)[Int.toNat p.length]? =some (Qh x))∧l=l∧xs[k]? =some [Qh x]∧
   NxtJ Tryz.prog gls l xs 37 (YV Tryz.prog 221 (6+1)) [0,13,14,15,25,26,27] [0,13,14,15] (.exit 2,[yvl l,.sl 4 (b.map Q4),.int .i64 nb,.int .i64 ib]) (.ret,[yvl l,.sl 4 (b.map Q4),.int .i64 nb,.int .i64 ib]) m [yvl l,.sl 4 (b.map Q4),.int .i64 nb,.int .i64 ib,.sl 2 (a.map Qh),.int .i64 n,.int .i64 (wr ((p.length:Int)+1))] [] (some (k+1))∧
   JO (.exit 2,[yvl l,.sl 4 (b.map Q4),.int .i64 nb,.int .i64 ib]) (.ret,[yvl l,.sl 4 (b.map Q4),.int .i64 nb,.int .i64 ib]) m .ret none [yvl l,.sl 4 (b.map Q4),.int .i64 nb,.int .i64 ib] [])∧
   (decide ((p.length:Int)<n)=false→JO (.exit 2,[yvl l,.sl 4 (b.map Q4),.int .i64 nb,.int .i64 ib]) (.ret,[yvl l,.sl 4 (b.map Q4),.int .i64 nb,.int .i64 ib]) m (.exit 2) (some k) [yvl l,.sl 4 (b.map Q4),.int .i64 nb,.int .i64 ib] []))
   (hs:=[(28,.split),(29,.e Qh)]) (js:=[]) (kb:=[]) (by kernel_rfl) (by kernel_rfl) ⟨fun h=> ?_,fun h=> ?_⟩
  ·have h:=of_decide_eq_true h;cases t with
   |nil=>subst ha;simp at hn;omega
   |cons e t=>
    have a5:p.length<a.length:=by rw[ha];simp
    refine⟨e,⟨by omega,?_⟩,rfl,hx 0 e rfl,⟨_,_,?_,.refl _,fr_in hn a4 t (p++[e]) (k+1) (by rw[ha];simp) (by rw[← hm];simp;omega) (fun j y hj=> ?_)⟩,.b rfl rfl rfl⟩
    ·rw[List.getElem?_map,ha,Int.toNat_natCast,List.getElem?_append_right (Nat.le_refl _)];simp
    ·rw[show wr ((p.length:Int)+1)=((p++[e]).length:Int) by rw[Z2 (by omega)];simp]
     exact .refl _
    ·rw[show k+1+j=k+(j+1) by omega]
     exact hx (j+1) y (by simpa using hj)
  ·have h:=of_decide_eq_false h;cases t with
   |nil=>exact .a rfl (by rw[← hm];rfl) rfl
   |cons e t=>rw[ha] at hn;simp at hn;omega
theorem fr_out{l:Nat}{xs:List (List AV)}{m n:Nat}{b:List Qf}(hn:b.length=n)(a7:n≤4611686018427387904)(hA:∀i∈b,i.fAt.length≤4611686018427387904):
  ∀(t p:List Qf) (k:Nat),b=p++t→k+((t.map X6).flatten).length=m→(∀(j:Nat) (y:gLin),((t.map X6).flatten)[j]? =some y→xs[k+j]? =some [Qh y])→
   JLo 221 2 37 l xs [0,13,14,15] [yvl l,.sl 4 (b.map Q4),.int .i64 n,.int .i64 p.length] [] (some k) [] (.exit 0,[]) (.ret,[]) m
 |t,p,k,ha,hm,hx=>by
  refine JL1 (φ:=(decide ((p.length:Int)<n)=true→∃x:Qf,((0:Int)≤p.length∧(b.map Q4)[Int.toNat p.length]? =some (Q4 x))∧l=l∧xs[k]? =some [Qh x.fLin]∧
   (∃q,JLo 221 6 37 l xs [0,13,14,15,25,26,27] [yvl l,.sl 4 (b.map Q4),.int .i64 n,.int .i64 p.length,.sl 2 (x.fAt.map Qh),.int .i64 ((x.fAt.map Qh).length:Nat),.int .i64 0] [] (some (k+1)) [0,13,14,15] (.exit 2,[yvl l,.sl 4 (b.map Q4),.int .i64 n,.int .i64 p.length]) (.ret,[yvl l,.sl 4 (b.map Q4),.int .i64 n,.int .i64 p.length]) q∧
    NxtJ Tryz.prog gls l xs 37 (YV Tryz.prog 221 (2+1)) [0,13,14,15] [] (.exit 0,[]) (.ret,[]) m [yvl l,.sl 4 (b.map Q4),.int .i64 n,.int .i64 (wr ((p.length:Int)+1))] [] (some q)∧
    JO (.exit 0,[]) (.ret,[]) m .ret none [] [])∧
   JO (.exit 0,[]) (.ret,[]) m .ret none [] [])∧
   (decide ((p.length:Int)<n)=false→JO (.exit 0,[]) (.ret,[]) m (.exit 0) (some k) [] []))
   (hs:=[(16,.split),(17,.e Q4)]) (js:=[(7,⟨[0,13,14,15,25,26,27],[],[0,13,14,15],(.exit 2,[yvl l,.sl 4 (b.map Q4),.int .i64 n,.int .i64 p.length]),(.ret,[yvl l,.sl 4 (b.map Q4),.int .i64 n,.int .i64 p.length])⟩)]) (kb:=[]) (by kernel_rfl) (by kernel_rfl) ⟨fun h=> ?_,fun h=> ?_⟩
  ·have h:=of_decide_eq_true h;cases t with
   |nil=>subst ha;simp at hn;omega
   |cons e t=>
    have a8:p.length<b.length:=by rw[ha];simp
    have a5:=hA e (by rw[ha];simp)
    have a6:(((e::t).map X6).flatten)=e.fLin::(e.fAt++(t.map X6).flatten):=by simp[X6]
    rw[a6] at hm hx;refine⟨e,⟨by omega,?_⟩,rfl,hx 0 _ rfl,⟨k+1+e.fAt.length,?_,⟨_,_,?_,.refl _,fr_out hn a7 hA t (p++[e]) (k+1+e.fAt.length) (by rw[ha];simp) (by rw[← hm];simp;omega) (fun j y hj=> ?_)⟩,.b rfl rfl rfl⟩,.b rfl rfl rfl⟩
    ·rw[List.getElem?_map,ha,Int.toNat_natCast,List.getElem?_append_right (Nat.le_refl _)];simp
    ·rw[List.length_map];exact fr_in (ib:=p.length) (nb:=n) rfl a5 e.fAt [] (k+1) rfl rfl (fun j y hj=>by
      rw[show k+1+j=k+(j+1) by omega]
      refine hx (j+1) y ?_;rw[List.getElem?_cons_succ,List.getElem?_append_left (List.getElem?_eq_some_iff.1 hj).1];exact hj)
    ·rw[show wr ((p.length:Int)+1)=((p++[e]).length:Int) by rw[Z2 (by omega)];simp]
     exact .refl _
    ·rw[show k+1+e.fAt.length+j=k+(e.fAt.length+j+1) by omega]
     refine hx _ y ?_;rw[List.getElem?_cons_succ,List.getElem?_append_right (Nat.le_add_right _ _),Nat.add_sub_cancel_left];exact hj
  ·have h:=of_decide_eq_false h;cases t with
   |nil=>exact .a rfl (by rw[← hm];rfl) rfl
   |cons e t=>rw[ha] at hn;simp at hn;omega
theorem Q0n(x:Rq):ItOk Tryz.prog gls 221 [.ip 13 [Q2 x.1] 0 0] ((JA x.1).map fun y=>[Qh y]):=
 ItOk.of (Gt (by kernel_rfl)) false fun l=>by
  have hx:∀(j:Nat) (y:gLin),(JA x.1)[j]? =some y→((JA x.1).map fun y=>[Qh y])[j]? =some [Qh y]:=fun j y hj=>by rw[List.getElem?_map,hj];rfl
  generalize hxs:((JA x.1).map fun y=>[Qh y])=xs at*
  have hl:xs.length=1+((x.1.fIdx.map X6).flatten).length:=by rw[← hxs,List.length_map];simp only[JA,List.length_cons];omega
  refine JF1 (φ:=l=l∧xs[0]? =some [Qh x.1.fLin]∧(∃q,JLo 221 2 37 l xs [0,13,14,15] [yvl l,.sl 4 (x.1.fIdx.map Q4),.int .i64 ((x.1.fIdx.map Q4).length:Nat),.int .i64 0] [] (some 1) [] (.exit 0,[]) (.ret,[]) q∧JQ false xs.length (.tup []) (some q)∧JQ false xs.length (.tup []) none)∧JQ false xs.length (.tup []) none)
   (hs:=[]) (js:=[(3,⟨[0,13,14,15],[],[],(.exit 0,[]),(.ret,[])⟩)]) (by kernel_rfl) ⟨rfl,hx 0 _ rfl,⟨1+((x.1.fIdx.map X6).flatten).length,?_,⟨rfl,.inl (by rw[hl])⟩,⟨rfl,.inr rfl⟩⟩,⟨rfl,.inr rfl⟩⟩
  rw[List.length_map];exact fr_out rfl x.2.1 x.2.2 x.1.fIdx [] 1 rfl rfl (fun j y hj=>by
   rw[Nat.add_comm 1 j];exact hx (j+1) y (by rw[JA,List.getElem?_cons_succ];exact hj))
open Classical in
noncomputable def CM(x0:Q0):Option Rq:=if h:x0.fIdx.length≤4611686018427387904∧∀i∈x0.fIdx,i.fAt.length≤4611686018427387904 then some ⟨x0,h⟩ else none
theorem FS(x:Q0)(h:x.fIdx.length≤4611686018427387904∧∀i∈x.fIdx,i.fAt.length≤4611686018427387904):CM x=some ⟨x,h⟩:=dif_pos h
theorem Aw(x0:Q0)(r:Rq)(h:CM x0=some r):PU 180 [Q2 x0] (Hu r):=by
 unfold CM at h;split at h
 ·cases h;exact Pu1 (φ:=LeT (.fn 221 [.ip 13 [Q2 x0] 0 0]) (.fn 221 [.ip 13 [Q2 x0] 0 0])) (hs:=[]) (by kernel_rfl) (.refl _)
 ·cases h
def Vf(u:Unit)(o:Bool):List Alt:=[⟨fun(x:Unit)=>o=true,.normal,fun x=>[.ptr 0 0 0],fun x=>[.cells 0 [.int .i64 0]]⟩,⟨fun(x:Unit)=>o=false,.ret,fun x=>[.ptr 0 0 0],fun x=>[.cells 0 [.int .i64 1]]⟩]
noncomputable def VP:List gLin→Option Bool
 | []=>some true
 |e::t=>Dh e>>=fun v=>if(v !=(0:Int))=true then some false else VP t
theorem N9:∀(l:List gLin) (o:Bool),VP l=some o→RG 146 12 38 [2] [.ptr 0 0 0] (Vf () o) (l.map fun y=>[Qh y]) [.cells 0 [.int .i64 0]]
 | [],o,h=>by
  cases h;exact Rg0 rfl (.here () rfl (.refl _) (.refl _))
 |e::t,o,h=>Rg1 (hs:=[(36,.c eI),(37,.split)]) (kb:=[{slot:=2}]) (kbx:=[{slot:=2}]) (by kernel_rfl) (by kernel_rfl)
  (kC (sh:=eI) (Tl e) (fun v=>kIf (c:=v !=(0:Int)) (kOt (alts:=Vf ()) false (.next (.here () rfl (.refl _) (.refl _)))) (kNx (f:=146) (r':=12) (n:=38) (ks:=[2]) (vs:=[.ptr 0 0 0]) (alts:=Vf ()) (xs:=t.map fun y=>[Qh y]) (bs:=[.cells 0 [.int .i64 0]]) (N9 t))) h)
noncomputable def VQ(x0:Q0):Option Int:=CM x0>>=fun w=>VP (JA w.1)>>=fun v=>some (if v then 0 else 1)
noncomputable def Ge(x0:Q0):Option Int:=
 C9 x0>>=fun v0=>if v0=true then(CN x0>>=fun v1=>if v1=true then(WP x0>>=fun v2=>if v2=true then(CQ x0>>=fun v3=>if v3=true then
  (if(x0.fOp==(1:Int))=true then Ck x0.fType x0.fVal>>=fun v4=>if v4=true then VQ x0 else some 1 else VQ x0)
  else some 10) else some 11) else some 7) else some 5
theorem M3(x0:Q0)(r:Int)(h:VQ x0=some r):∃w,PU 180 [Q2 x0] (Hu w)∧∃xs u o,ItOk Tryz.prog gls 221 [.ip 13 [Q2 w.1] 0 0] xs∧RG 146 12 38 [2] [.ptr 0 0 0] (Vf u o) xs [.cells 0 [.int .i64 0]]∧(∀x:Unit,o=true→LeT (eI 0) (eI r))∧∀x:Unit,o=false→LeT (eI 1) (eI r):=
 kC (sh:=Hu) (Aw x0) (fun w=>kRg (IT:=fun xs=>ItOk Tryz.prog gls 221 [.ip 13 [Q2 w.1] 0 0] xs) (R:=fun xs (u:Unit) o=>RG 146 12 38 [2] [.ptr 0 0 0] (Vf u o) xs [.cells 0 [.int .i64 0]]) (A:=fun o=>(∀x:Unit,o=true→LeT (eI 0) (eI r))∧∀x:Unit,o=false→LeT (eI 1) (eI r)) _ () (Q0n w) (N9 _)
   (fun v h=>by cases h;exact⟨fun x e=>by subst e;exact .refl _,fun x e=>by subst e;exact .refl _⟩)) h
theorem Es(x0:Q0)(r:Int)(h:Ge x0=some r):PU 146 [Q2 x0] (eI r):=
 Pu1 (hs:=[(6,.cb),(10,.cb),(14,.cb),(18,.cb),(23,.split),(29,.cb),(33,.c Hu),(4000013,.l [] [2] [{slot:=2}] [2] [{slot:=2}] Vf)]) (by kernel_rfl)
  (kCb (SH x0) (kCb (Ax x0) (kCb (Ps x0) (kCb (Ay x0) (kIf (c:=x0.fOp==(1:Int)) (kCb (SX x0.fType x0.fVal) (M3 x0 r) (kEr (enc:=eI) 1)) (M3 x0 r))
   (kEr (enc:=eI) 10)) (kEr (enc:=eI) 11)) (kEr (enc:=eI) 7)) (kEr (enc:=eI) 5) h)
def Uj(u:Unit)(o:Int):List Alt:=[⟨fun(x:Unit)=>o=0,.normal,fun x=>[.ptr 0 0 0],fun x=>[.cells 0 [.int .i64 0]]⟩,⟨fun(x:Unit)=>¬o=0,.ret,fun x=>[.ptr 0 0 0],fun x=>[.cells 0 [.int .i64 o]]⟩]
noncomputable def Jp:List Q6→Option Int
 | []=>some 0
 |e::t=>Ge e.f>>=fun v=>if(v !=(0:Int))=true then some v else Jp t
theorem NA:∀(l:List Q6) (o:Int),Jp l=some o→RG 121 6 19 [2] [.ptr 0 0 0] (Uj () o) (l.map fun y=>[Q2 y.f]) [.cells 0 [.int .i64 0]]
 | [],o,h=>by
  cases h;exact Rg0 rfl (.here () rfl (.refl _) (.refl _))
 |e::t,o,h=>Rg1 (hs:=[(15,.c eI),(17,.split)]) (kb:=[{slot:=2}]) (kbx:=[{slot:=2}]) (by kernel_rfl) (by kernel_rfl)
  (kC (sh:=eI) (Es e.f) (fun v=>kIfE (c:=v !=(0:Int)) (fun hc=>kOt (alts:=Uj ()) v (.next (.here () (by simpa using hc) (.refl _) (.refl _)))) (kNx (f:=121) (r':=6) (n:=19) (ks:=[2]) (vs:=[.ptr 0 0 0]) (alts:=Uj ()) (xs:=t.map fun y=>[Q2 y.f]) (bs:=[.cells 0 [.int .i64 0]]) (NA t))) h)
noncomputable def GG(x0:Q0):Option Int:=
 M2 x0>>=fun v0=>if(40:Int)<v0 then some 13 else WO x0>>=fun v1=>if(2000:Int)<v1 then some 2 else Gz x0>>=fun w=>Jp (Z1 (.mk w.1))>>=fun v=>some v
theorem R8(x0:Q0)(r:Int)(h:GG x0=some r):PU 121 [Q2 x0] (eI r):=
 Pu1 (hs:=[(6,.c eI),(7,.split),(9,.c eI),(10,.split),(12,.c Mc),(4000007,.l [] [2] [{slot:=2}] [2] [{slot:=2}] Uj)]) (by kernel_rfl)
  (kC (sh:=eI) (Au x0) (fun v0=>kIfD (p:=(40:Int)<v0) (kEr (enc:=eI) 13) (kC (sh:=eI) (Pr x0) (fun v1=>kIfD (p:=(2000:Int)<v1) (kEr (enc:=eI) 2)
   (kC (sh:=Mc) (MN x0) (fun w=>kRg (IT:=fun xs=>ItOk Tryz.prog gls 147 [.ip 13 [Q2 w.1] 0 0] xs) (R:=fun xs (u:Unit) o=>RG 121 6 19 [2] [.ptr 0 0 0] (Uj u o) xs [.cells 0 [.int .i64 0]]) (A:=fun o=>(∀x:Unit,o=0→LeT (eI 0) (eI r))∧∀x:Unit,¬o=0→LeT (eI o) (eI r)) _ () (Ta w) (NA _)
    (fun v h=>by cases h;exact⟨fun x e=>by subst e;exact .refl _,fun x e=>.refl _⟩)))))) h)
def hCk(c:Q1):AV:=.ip 5 [IJ c] 0 0
def Xf(s:Q0×Q1)(u:Unit)(o:Int):List Alt:=[⟨fun(x:Unit)=>o=0,.normal,fun x=>[.ip 1 [.agg [hCk s.2]] 0 0,.ptr 0 0 0,.ptr 1 0 0,.ptr 2 0 0],fun x=>[.cells 0 (Q2 s.1).cells,.cells 0 (Qd ⟨0,0,0,0,0⟩).cells,.cells 0 [.int .i64 0]]⟩,
 ⟨fun(x:Unit)=>¬o=0,.ret,fun x=>[.ip 1 [.agg [hCk s.2]] 0 0,.ptr 0 0 0,.ptr 1 0 0,.ptr 2 0 0],fun x=>[.cells 0 (Q2 s.1).cells,.cells 0 (Qd ⟨0,0,0,0,0⟩).cells,.cells 0 [.int .i64 o]]⟩]
noncomputable def ZT(c:Q1):List Q6→Option Int
 | []=>some 0
 |e::t=>V6 c e.f>>=fun v=>if(v !=(0:Int))=true then some v else ZT c t
theorem U8(c:Q1)(x:Q0):∀(l:List Q6) (o:Int),ZT c l=some o→RG 98 5 30 [2,3,4,5] [.ip 1 [.agg [hCk c]] 0 0,.ptr 0 0 0,.ptr 1 0 0,.ptr 2 0 0] (Xf (x,c) () o) (l.map fun y=>[Q2 y.f]) [.cells 0 (Q2 x).cells,.cells 0 (Qd ⟨0,0,0,0,0⟩).cells,.cells 0 [.int .i64 0]]
 | [],o,h=>by
  cases h;exact Rg0 rfl (.here () rfl (.refl _) (.refl _))
 |e::t,o,h=>Rg1 (hs:=[(20,.c eI),(22,.split)]) (kb:=[{slot:=3},{slot:=4},{slot:=5}]) (kbx:=[{slot:=3},{slot:=4},{slot:=5}]) (by kernel_rfl) (by kernel_rfl)
  (kC (sh:=eI) (Mt c e.f) (fun v=>kIfE (c:=v !=(0:Int)) (fun hc=>kOt (alts:=Xf (x,c) ()) v (.next (.here () (by simpa using hc) (.refl _) (.refl _)))) (kNx (f:=98) (r':=5) (n:=30) (ks:=[2,3,4,5]) (vs:=[.ip 1 [.agg [hCk c]] 0 0,.ptr 0 0 0,.ptr 1 0 0,.ptr 2 0 0]) (alts:=Xf (x,c) ()) (xs:=t.map fun y=>[Q2 y.f]) (bs:=[.cells 0 (Q2 x).cells,.cells 0 (Qd ⟨0,0,0,0,0⟩).cells,.cells 0 [.int .i64 0]]) (U8 c x t))) h)
noncomputable def ZA(c:Q1)(x:Q0):Option (Q8×Int):=
 GG x>>=fun v0=>if(v0 !=(0:Int))=true then some (⟨0,0,0,0,0⟩,v0) else Gz x>>=fun w=>ZT c (Z1 (.mk w.1))>>=fun v=>if v=0 then Ze c x>>=fun q=>some (q.1,q.2) else some (⟨0,0,0,0,0⟩,v)
theorem kSelP{r:Q8×Int}{p:Prop} [Decidable p] {x:Option (Q8×Int)} {y:Q8×Int} {A:Prop} (hA:x=some r→A) (h:(if p then x else some y)=some r):(Unit→p→A)∧(Unit→¬p→LeT (Ql y) (Ql r)):=by
 by_cases hp:p;·rw[if_pos hp] at h;exact⟨fun _ _=>hA h,fun _ e=>absurd hp e⟩
 ·rw[if_neg hp] at h;cases h;exact⟨fun _ e=>absurd e hp,fun _ _=>.refl _⟩
theorem V2(c:Q1)(x:Q0)(r:Q8×Int)(h:ZA c x=some r):PU 98 [hCk c,Q2 x] (Ql r):=
 Pu1 (hs:=[(3,.z [{slot:=2,fz:=true}] none),(10,.c eI),(12,.split),(16,.c Mc),(4000006,.l [] [2,3,4,5] [{slot:=3},{slot:=4},{slot:=5}] [2,3,4,5] [{slot:=3},{slot:=4},{slot:=5}] (Xf (x,c))),(27,.c Ql)]) (by kernel_rfl)
  (kC (sh:=eI) (R8 x) (fun v0=>kIf (c:=v0 !=(0:Int)) (kEr (enc:=Ql) (⟨0,0,0,0,0⟩,v0))
   (kC (sh:=Mc) (MN x) (fun w=>kRg (IT:=fun xs=>ItOk Tryz.prog gls 147 [.ip 13 [Q2 w.1] 0 0] xs) (R:=fun xs (u:Unit) o=>RG 98 5 30 [2,3,4,5] [.ip 1 [.agg [hCk c]] 0 0,.ptr 0 0 0,.ptr 1 0 0,.ptr 2 0 0] (Xf (x,c) u o) xs [.cells 0 (Q2 x).cells,.cells 0 (Qd ⟨0,0,0,0,0⟩).cells,.cells 0 [.int .i64 0]])
    (A:=fun o=>(Unit→o=0→∃q,PU 124 [hCk c,Q2 x] (Ql q)∧LeT (Ql q) (Ql r))∧(Unit→¬o=0→LeT (Ql (⟨0,0,0,0,0⟩,o)) (Ql r))) _ () (Ta w) (U8 c x _)
    (fun v=>kSelP (kC (sh:=Ql) (NF c x) (fun q=>kEr (enc:=Ql) (q.1,q.2))))))) h)
end Go.Proofs.YtolcgikajjkjgaaGreatDoor
end
noncomputable section
namespace Go.Proofs.YtolcgikajjkjgaaGreatDoor
open Go HY
set_option maxRecDepth 1000000
set_option linter.unusedVariables false
def ZI(s:(Q1×Qq))(u:Q8)(o:Bool):List Alt:=jb o (fun b=>[.ip 5 [.agg [.sl 8 (List.map Q7 (s.1).fnest.fBufs),.sl 20 (List.map Qg (s.1).fnest.fBody),.sl 1 (List.map eS (s.1).floops),.sl 1 (List.map eS (s.1).fscope),.sl 1 (List.map eI (s.1).fpath)]] 0 0,.ptr 0 0 0,.ptr 1 0 0,.bool b]) [.cells 0 (Qv (s.2)).cells,.cells 0 (Qd u).cells]
def XE(s:Unit)(u:Unit)(o:Bool):List Alt:=jb o (fun b=>[.bool b]) []
def KM(x0:Q1)(x1:Qq):Option Int:=
 some ((Ka.mk (3:Int) x1.fName (gVal.mk (0:Int) (0:Int)) (Q8.mk (0:Int) (0:Int) (0:Int) (0:Int) (0:Int)) (gLin.mk (0:Int) []) x1.fIdx []:Q0))>>=fun v0=>
 ZA x0 v0>>=fun v1=>
 if v1.snd !=(0:Int) then
 some v1.snd
 else
 Ya x0.fnest x1.fName>>=fun v2=>
 if v2.fst.fUse==(1:Int) then
 some (1:Int)
 else
 some v1.fst>>=fun v3=>
 (if x1.fOp==(3:Int) then
 if x1.fFold< (1:Int) then
 some true
 else
 if(4:Int)<x1.fFold then
 some true
 else
 some false
 else
 some false)>>=fun v4=>if v4 then
 some (1:Int)
 else
 ZA x0 x1.fExpr>>=fun v7=>
 if v7.snd !=(0:Int) then
 some v7.snd
 else
 some ()>>=fun v8=>
 (YB x1.fExpr>>=fun a7=>if a7 then
 some true
 else
 if !(v7.fst.fKind==v3.fKind&& (v7.fst.fBits==v3.fBits&& (v7.fst.fFrac==v3.fFrac&& (v7.fst.fRound==v3.fRound&& (v7.fst.fOver==v3.fOver&&true))))) then
 some true
 else
 some false)>>=fun v9=>if v9 then
 some (10:Int)
 else
 some (0:Int)
theorem M5(x0:Q1)(x1:Qq)(r:Int)(h:KM x0 x1=some r):PU 100 [.ip 5 [.agg [.sl 8 (List.map Q7 x0.fnest.fBufs),.sl 20 (List.map Qg x0.fnest.fBody),.sl 1 (List.map eS x0.floops),.sl 1 (List.map eS x0.fscope),.sl 1 (List.map eI x0.fpath)]] 0 0,Qv x1] (eI r):=
 Pu2 (hs:=[(16,.n Q2 16 none),(17,.c Ql),(21,.split),(30,.c Qz),(35,.split),(38,.split),(42,.split),(46,.split),(53,.c Ql),(57,.split),(61,.cb),(65,.split),(5000007,.l [] [] [] [0,3,5,48] [kk 3,kk 5] (ZI (x0,x1))),(5000012,.l [] [] [] [66] [] (XE ()))]) ((kW (sh:=Q2) (Ka.mk (3:Int) x1.fName (gVal.mk (0:Int) (0:Int)) (Q8.mk (0:Int) (0:Int) (0:Int) (0:Int) (0:Int)) (gLin.mk (0:Int) []) x1.fIdx []:Q0) (LeV.agg (.cons (LeV.refl (ii (3:Int))) (.cons (LeV.refl (AV.str x1.fName)) (.cons (LeV.refl (ii (0:Int))) (.cons (LeV.refl (ii (0:Int))) (.cons (LeV.refl (ii (0:Int))) (.cons (LeV.refl (ii (0:Int))) (.cons (LeV.refl (ii (0:Int))) (.cons (LeV.refl (ii (0:Int))) (.cons (LeV.refl (ii (0:Int))) (.cons (LeV.refl (ii (0:Int))) (.cons (LeV.nil 2) (.cons (LeV.refl (AV.sl (4:Nat) (List.map Q4 x1.fIdx))) (.cons (LeV.nil 13) .nil)))))))))))))) fun v0=>(kC (sh:=Ql) (V2 x0 v0) fun v1=>(kIf (c:=v1.snd !=(0:Int)) (kEr (enc:=eI) v1.snd)
 (kC (sh:=Qz) (Jq x0.fnest x1.fName) fun v2=>(kIf (c:=v2.fst.fUse==(1:Int)) (kEr (enc:=eI) (1:Int))
 (kJb (id:=5000007) v1.fst (fun v3 a5 v4=>(kIf (c:=x1.fOp==(3:Int)) (kIfD (p:=x1.fFold< (1:Int)) (kXj (alts:=ZI (x0,x1)) a5 true (.here () rfl (.refl _) (.refl _)))
 (kIfD (p:=(4:Int)<x1.fFold) (kXj (alts:=ZI (x0,x1)) a5 true (.here () rfl (.refl _) (.refl _)))
 (kXj (alts:=ZI (x0,x1)) a5 false (.next (.here () rfl (.refl _) (.refl _))))))
 (kXj (alts:=ZI (x0,x1)) a5 false (.next (.here () rfl (.refl _) (.refl _))))))
 (fun v3=>(kEr (enc:=eI) (1:Int)))
 (fun v3=>(kC (sh:=Ql) (V2 x0 x1.fExpr) fun v7=>(kIf (c:=v7.snd !=(0:Int)) (kEr (enc:=eI) v7.snd)
 (kJb (id:=5000012) () (fun v8 a6 v9=>(kCb (Ut x1.fExpr) (kXj (alts:=XE ()) a6 true (.here () rfl (.refl _) (.refl _)))
 (kIf (c:= !(v7.fst.fKind==v3.fKind&& (v7.fst.fBits==v3.fBits&& (v7.fst.fFrac==v3.fFrac&& (v7.fst.fRound==v3.fRound&& (v7.fst.fOver==v3.fOver&&true)))))) (kXj (alts:=XE ()) a6 true (.here () rfl (.refl _) (.refl _)))
 (kXj (alts:=XE ()) a6 false (.next (.here () rfl (.refl _) (.refl _)))))))
 (fun v8=>(kEr (enc:=eI) (10:Int)))
 (fun v8=>(kEr (enc:=eI) (0:Int))))))))))))) h)
def YL(x0:Q1)(x1:Qq):Option Int:=
 UN x1>>=fun v0=>if v0 then
 if x1.fOp==(1:Int) then
 V5 x0 x1>>=fun v1=>
 some v1
 else
 if x1.fOp==(4:Int) then
 ZA x0 x1.fExpr>>=fun v2=>
 if v2.snd !=(0:Int) then
 some v2.snd
 else
 YB x1.fExpr>>=fun v3=>if v3 then
 some (0:Int)
 else
 some (10:Int)
 else
 KM x0 x1>>=fun v4=>
 some v4
 else
 some (5:Int)
theorem Wx(x0:Q1)(x1:Qq)(r:Int)(h:YL x0 x1=some r):PU 76 [.ip 5 [.agg [.sl 8 (List.map Q7 x0.fnest.fBufs),.sl 20 (List.map Qg x0.fnest.fBody),.sl 1 (List.map eS x0.floops),.sl 1 (List.map eS x0.fscope),.sl 1 (List.map eI x0.fpath)]] 0 0,Qv x1] (eI r):=
 Pu2 (hs:=[(8,.cb),(13,.split),(16,.c eI),(18,.split),(23,.c Ql),(27,.split),(31,.cb),(35,.c eI)]) ((kCb (HX x1) (kIf (c:=x1.fOp==(1:Int)) (kC (sh:=eI) (Ms x0 x1) fun v1=>(kEr (enc:=eI) v1))
 (kIf (c:=x1.fOp==(4:Int)) (kC (sh:=Ql) (V2 x0 x1.fExpr) fun v2=>(kIf (c:=v2.snd !=(0:Int)) (kEr (enc:=eI) v2.snd)
 (kCb (Ut x1.fExpr) (kEr (enc:=eI) (0:Int))
 (kEr (enc:=eI) (10:Int)))))
 (kC (sh:=eI) (M5 x0 x1) fun v4=>(kEr (enc:=eI) v4))))
 (kEr (enc:=eI) (5:Int))) h)
def QN(r:(Int×Q1)):AV:=eI r.1
def QL(r:(Int×Q1)):List Box:=[.cells 0 [.sl 8 (List.map Q7 r.2.fnest.fBufs),.sl 20 (List.map Qg r.2.fnest.fBody),.ow 1 0 1 (List.length r.2.floops),.ow 2 0 1 (List.length r.2.fscope),.ow 3 0 1 (List.length r.2.fpath)],.own 0 1 (List.map eS r.2.floops),.own 0 1 (List.map eS r.2.fscope),.own 0 1 (List.map eI r.2.fpath)]
def Z9(s:List Qb)(u:Int)(o:Q1 ⊕ (Q1×Int)):List Alt:=[⟨fun(x:Q1)=>(Sum.inl x:Q1 ⊕ (Q1×Int))=o,.exit 0,fun x=>[.ptr 0 0 0,.undef],fun x=>[.cells 0 [.sl 8 (List.map Q7 x.fnest.fBufs),.sl 20 (List.map Qg x.fnest.fBody),.ow 1 0 1 (List.length x.floops),.ow 2 0 1 (List.length x.fscope),.ow 3 0 1 (List.length x.fpath)],.own 0 1 (List.map eS x.floops),.own 0 1 (List.map eS x.fscope),.own 0 1 (List.map eI x.fpath)]⟩,⟨fun(x:(Q1×Int))=>(Sum.inr x:Q1 ⊕ (Q1×Int))=o,.ret,fun x=>[.ptr 0 0 0,ii x.2],fun x=>[.cells 0 [.sl 8 (List.map Q7 x.1.fnest.fBufs),.sl 20 (List.map Qg x.1.fnest.fBody),.ow 1 0 1 (List.length x.1.floops),.ow 2 0 1 (List.length x.1.fscope),.ow 3 0 1 (List.length x.1.fpath)],.own 0 1 (List.map eS x.1.floops),.own 0 1 (List.map eS x.1.fscope),.own 0 1 (List.map eI x.1.fpath)]⟩]
def Yc(s:((List Qb)×Int))(u:(Qq×Int×Int))(o:Q1):List Alt:=[⟨fun(x:Q1)=>x=o,.normal,fun x=>[.ptr 0 0 0,.sl 20 (List.map Qg (s.1)),.ptr 4 0 0,ii (u.2.1),ii (s.2),ii (u.2.2)],fun x=>[.cells 0 [.sl 8 (List.map Q7 x.fnest.fBufs),.sl 20 (List.map Qg x.fnest.fBody),.ow 1 0 1 (List.length x.floops),.ow 2 0 1 (List.length x.fscope),.ow 3 0 1 (List.length x.fpath)],.own 0 1 (List.map eS x.floops),.own 0 1 (List.map eS x.fscope),.own 0 1 (List.map eI x.fpath),.cells 0 (Qv (u.1)).cells]⟩]
mutual
def QM(x0:Q1)(x1:List Qb):Option (Int×Q1):=
 some (List.length x1:Int)>>=fun v0=>
 some v0>>=fun v1=>
 QA x0 x1 v0 (0:Int)>>=fun v2=>(match v2 with
 | (.inl v3)=>
 some ((0:Int),v3)
 | (.inr v4)=>
 some (v4.snd,v4.fst))
 partial_fixpoint
def QA(x0:Q1)(x1:List Qb)(a8:Int)(a5:Int):Option (Q1 ⊕ (Q1×Int)):=
 if a5<a8 then
 Option.map Qb.f (ix x1 a5)>>=fun v0=>
 if(x0.fpath.length+(1:Nat))*(8:Nat)≤(140737488355328:Nat)∧x0.fpath.length+(1:Nat)≤(9223372036854775807:Nat) then
 some (x0.fpath++[a5])>>=fun v1=>
 YL (Q1.mk x0.fnest x0.floops x0.fscope v1) v0>>=fun v2=>
 if v2 !=(0:Int) then
 some (.inr ((Q1.mk x0.fnest x0.floops x0.fscope v1),v2))
 else
 some ((↑x0.fscope.length:Int):Int)>>=fun v3=>
 some (v0,v3,a5)>>=fun v4=>
 (if v0.fOp==(1:Int) then
 if(x0.floops.length+(1:Nat))*(16:Nat)≤(140737488355328:Nat)∧x0.floops.length+(1:Nat)≤(9223372036854775807:Nat) then
 if(x0.fscope.length+(1:Nat))*(16:Nat)≤(140737488355328:Nat)∧x0.fscope.length+(1:Nat)≤(9223372036854775807:Nat) then
 some (Q1.mk x0.fnest (x0.floops++[v0.fName]) (x0.fscope++[v0.fName]) v1)
 else none
 else none
 else
 some (Q1.mk x0.fnest x0.floops x0.fscope v1))>>=fun v6=>
 QM v6 v4.fst.fBody>>=fun v7=>
 if v7.fst !=(0:Int) then
 some (.inr (v7.snd,v7.fst))
 else
 if(0:Int)=(0:Int)∧(0:Int)≤v4.snd.fst∧v4.snd.fst≤(↑v7.snd.fscope.length:Int) then
 if List.length (List.take v4.snd.fst.toNat v7.snd.fscope)=v4.snd.fst.toNat then
 some (List.take v4.snd.fst.toNat v7.snd.fscope)>>=fun v8=>
 if(0:Int)=(0:Int)∧(0:Int)≤wr ((↑v7.snd.fpath.length:Int) - (1:Int))∧wr ((↑v7.snd.fpath.length:Int) - (1:Int))≤(↑v7.snd.fpath.length:Int) then
 some ((↑v7.snd.fpath.length:Int):Int)>>=fun v9=>
 if List.length (List.take ((wr ((↑v7.snd.fpath.length:Int) - (1:Int))).toNat) v7.snd.fpath)=((wr ((↑v7.snd.fpath.length:Int) - (1:Int))).toNat) then
 some (List.take ((wr ((↑v7.snd.fpath.length:Int) - (1:Int))).toNat) v7.snd.fpath)>>=fun aa=>
 QA (Q1.mk v7.snd.fnest v7.snd.floops v8 aa) x1 a8 (wr (v4.snd.snd+(1:Int)))
 else none
 else none
 else none
 else none
 else none
 else
 some (.inl x0)
 partial_fixpoint
end
theorem W1:(∀(x0:Q1) (x1:List Qb) (r:(Int×Q1)),QM x0 x1=some r→PH 47 [.ptr 0 0 0,Zx x1] [.cells 0 [.sl 8 (List.map Q7 x0.fnest.fBufs),.sl 20 (List.map Qg x0.fnest.fBody),.ow 1 0 1 (List.length x0.floops),.ow 2 0 1 (List.length x0.fscope),.ow 3 0 1 (List.length x0.fpath)],.own 0 1 (List.map eS x0.floops),.own 0 1 (List.map eS x0.fscope),.own 0 1 (List.map eI x0.fpath)] (QN r) (QL r))∧(∀(x0:Q1) (x1:List Qb) (a4:Int) (a7:Int) (o:Q1 ⊕ (Q1×Int)),QA x0 x1 a4 a7=some o→LOp [.ptr 0 0 0] 47 2 96 [0,1,11,12] [.ptr 0 0 0,.sl 20 (List.map Qg x1),ii a4,ii a7] [.cells 0 [.sl 8 (List.map Q7 x0.fnest.fBufs),.sl 20 (List.map Qg x0.fnest.fBody),.ow 1 0 1 (List.length x0.floops),.ow 2 0 1 (List.length x0.fscope),.ow 3 0 1 (List.length x0.fpath)],.own 0 1 (List.map eS x0.floops),.own 0 1 (List.map eS x0.fscope),.own 0 1 (List.map eI x0.fpath)] [0,4] (Z9 x1 a4 o)):=
 QM.mutual_partial_correctness (fun x0 x1 r=>PH 47 [.ptr 0 0 0,Zx x1] [.cells 0 [.sl 8 (List.map Q7 x0.fnest.fBufs),.sl 20 (List.map Qg x0.fnest.fBody),.ow 1 0 1 (List.length x0.floops),.ow 2 0 1 (List.length x0.fscope),.ow 3 0 1 (List.length x0.fpath)],.own 0 1 (List.map eS x0.floops),.own 0 1 (List.map eS x0.fscope),.own 0 1 (List.map eI x0.fpath)] (QN r) (QL r)) (fun x0 x1 a4 a7 o=>LOp [.ptr 0 0 0] 47 2 96 [0,1,11,12] [.ptr 0 0 0,.sl 20 (List.map Qg x1),ii a4,ii a7] [.cells 0 [.sl 8 (List.map Q7 x0.fnest.fBufs),.sl 20 (List.map Qg x0.fnest.fBody),.ow 1 0 1 (List.length x0.floops),.ow 2 0 1 (List.length x0.fscope),.ow 3 0 1 (List.length x0.fpath)],.own 0 1 (List.map eS x0.floops),.own 0 1 (List.map eS x0.fscope),.own 0 1 (List.map eI x0.fpath)] [0,4] (Z9 x1 a4 o))
 (fun QA Q3c x0 x1 r h=>
 PuH2 (hs:=[(11,.n eI 11 none),(3000003,.l [] [0,1,11,12] [kk 0,{slot:=0,path:=[2],own:=1},{slot:=0,path:=[3],own:=1},{slot:=0,path:=[4],own:=1}] [0,4] [kk 0,{slot:=0,path:=[2],own:=1},{slot:=0,path:=[3],own:=1},{slot:=0,path:=[4],own:=1}] (Z9 x1))]) (kb:=[kk 1,{slot:=1,path:=[2],own:=1},{slot:=1,path:=[3],own:=1},{slot:=1,path:=[4],own:=1}]) ((kN _ (mLen (sh:=Qg) x1) fun v0=>(kL2 v0 (hL:=(Q3c x0 x1 v0 (0:Int))) (hA:=fun v1 v3=>(kEH (enc:=QN) (bt:=QL) ((0:Int),v3) ⟨.refl _,.refl _⟩))
 (hB:=fun v1 v4=>(kEH (enc:=QN) (bt:=QL) (v4.snd,v4.fst) ⟨.refl _,.refl _⟩)))) h))
 (fun QM QA Q3b Q3c x0 x1 a4 a7 o h=>
 Lp1p (hs:=[(13,.split),(17,.e Qv),(26,.z [{slot:=23,own:=1}] (some (.n eI 26 (some .a)))),(31,.c eI),(33,.split),(39,.n eI 39 none),(42,.split),(51,.a),(62,.a),(68,.h [kk 0,{slot:=0,path:=[2],own:=1},{slot:=0,path:=[3],own:=1},{slot:=0,path:=[4],own:=1}] QN QL),(70,.split),(78,.s),(90,.n eI 90 none),(92,.s),(79,.z [{slot:=78,own:=1,cut:=true}] (some (.n eS 78 none))),(93,.z [{slot:=92,own:=1,cut:=true}] (some (.n eI 92 none))),(6000012,.l [] [] [] [0,1,6,8,11,12] [kk 0,{slot:=0,path:=[2],own:=1},{slot:=0,path:=[3],own:=1},{slot:=0,path:=[4],own:=1},kk 6] (Yc (x1,a4)))]) (kb:=[kk 0,{slot:=0,path:=[2],own:=1},{slot:=0,path:=[3],own:=1},{slot:=0,path:=[4],own:=1}]) (kbx:=[kk 0,{slot:=0,path:=[2],own:=1},{slot:=0,path:=[3],own:=1},{slot:=0,path:=[4],own:=1}]) (by kernel_rfl) (by kernel_rfl) ((kIfD (p:=a7<a4) (kIxR (l:=x1) (k:=a7) YD fun v0=>(kA (q:=(x0.fpath.length+(1:Nat))*(8:Nat)≤(140737488355328:Nat)∧x0.fpath.length+(1:Nat)≤(9223372036854775807:Nat)) (sh:=eI) (l:=x0.fpath) (kO (sh:=eI) (x0.fpath++[a7]) (mA (sh:=eI) x0.fpath a7) (nA x0.fpath a7) fun v1=>(kT (nM (sh:=eS) x0.floops) (kT (nM (sh:=eS) x0.fscope) (kT (nM (sh:=eI) v1) (kC (sh:=eI) (Wx (Q1.mk x0.fnest x0.floops x0.fscope v1) v0) fun v2=>(kIf (c:=v2 !=(0:Int)) (kX (alts:=Z9 x1 a4) (.inr ((Q1.mk x0.fnest x0.floops x0.fscope v1),v2)) (.next (.here _ rfl (.refl _) (.refl _))))
 (kN (↑x0.fscope.length:Int) rfl fun v3=>(kJ1 (id:=6000012) (v0,v3,a7) (fun v4 ab v5=>(kIf (c:=v0.fOp==(1:Int)) (kA (q:=(x0.floops.length+(1:Nat))*(16:Nat)≤(140737488355328:Nat)∧x0.floops.length+(1:Nat)≤(9223372036854775807:Nat)) (sh:=eS) (l:=x0.floops) (kA (q:=(x0.fscope.length+(1:Nat))*(16:Nat)≤(140737488355328:Nat)∧x0.fscope.length+(1:Nat)≤(9223372036854775807:Nat)) (sh:=eS) (l:=x0.fscope) (kXj (alts:=Yc (x1,a4)) ab (Q1.mk x0.fnest (x0.floops++[v0.fName]) (x0.fscope++[v0.fName]) v1) (.here _ rfl (.cons (LeV.refl (AV.ptr (0:Nat) (0:Nat) (0:Nat))) (.cons (LeV.refl (AV.sl (20:Nat) (List.map Qg x1))) (.cons (LeV.refl (AV.ptr (4:Nat) (0:Nat) (0:Nat))) (.cons (LeV.refl (ii v3)) (.cons (LeV.refl (ii a4)) (.cons (LeV.refl (ii a7)) .nil)))))) (.cons (LeB.cells (0:Nat) (.cons (LeV.refl (AV.sl (8:Nat) (List.map Q7 x0.fnest.fBufs))) (.cons (LeV.refl (AV.sl (20:Nat) (List.map Qg x0.fnest.fBody))) (.cons (LeV.owl (by simp:x0.floops.length+(1:Nat)=List.length (x0.floops++[v0.fName]))) (.cons (LeV.owl (by simp:x0.fscope.length+(1:Nat)=List.length (x0.fscope++[v0.fName]))) (.cons (LeV.refl (AV.ow (3:Nat) (0:Nat) (1:Nat) v1.length)) .nil)))))) (.cons (LeB.ownEq (mA (sh:=eS) x0.floops v0.fName)) (.cons (LeB.ownEq (mA (sh:=eS) x0.fscope v0.fName)) (.cons (LeB.refl (Box.own (0:Nat) (1:Nat) (List.map eI v1))) (.cons (LeB.refl (Box.cells (0:Nat) [ii v0.fOp,AV.str v0.fName,ii v0.fMany,ii v0.fMark,ii v0.fFold,AV.sl (4:Nat) (List.map Q4 v0.fIdx),ii v0.fExpr.fOp,AV.str v0.fExpr.fName,ii v0.fExpr.fVal.fN,ii v0.fExpr.fVal.fD,ii v0.fExpr.fType.fKind,ii v0.fExpr.fType.fBits,ii v0.fExpr.fType.fFrac,ii v0.fExpr.fType.fRound,ii v0.fExpr.fType.fOver,ii v0.fExpr.fLin.fK,AV.sl (2:Nat) (List.map Qp v0.fExpr.fLin.fL),AV.sl (4:Nat) (List.map Q4 v0.fExpr.fIdx),AV.sl (13:Nat) (List.map Qo v0.fExpr.fArgs),AV.sl (20:Nat) (List.map Qg v0.fBody)])) .nil)))))))))
 (kXj (alts:=Yc (x1,a4)) ab (Q1.mk x0.fnest x0.floops x0.fscope v1) (.here _ rfl (.refl _) (.refl _)))))
 (fun v4 v6=>(kH (sh:=QN) (bt:=QL) (Q3b v6 v4.fst.fBody) fun v7=>(kIf (c:=v7.fst !=(0:Int)) (kX (alts:=Z9 x1 a4) (.inr (v7.snd,v7.fst)) (.next (.here _ rfl (.refl _) (.refl _))))
 (kG (p:=(0:Int)=(0:Int)∧(0:Int)≤v4.snd.fst∧v4.snd.fst≤(↑v7.snd.fscope.length:Int)) (kOc (sh:=eS) (List.take v4.snd.fst.toNat v7.snd.fscope) (mT (sh:=eS) v7.snd.fscope v4.snd.fst.toNat) fun v8=>(kG (p:=(0:Int)=(0:Int)∧(0:Int)≤wr ((↑v7.snd.fpath.length:Int) - (1:Int))∧wr ((↑v7.snd.fpath.length:Int) - (1:Int))≤(↑v7.snd.fpath.length:Int)) (kN (↑v7.snd.fpath.length:Int) rfl fun v9=>(kOc (sh:=eI) (List.take ((wr ((↑v7.snd.fpath.length:Int) - (1:Int))).toNat) v7.snd.fpath) (mT (sh:=eI) v7.snd.fpath ((wr ((↑v7.snd.fpath.length:Int) - (1:Int))).toNat)) fun ad=>(kM0 (alts:=Z9 x1 a4) (Q3c (Q1.mk v7.snd.fnest v7.snd.floops v8 ad) x1 a4 (wr (v4.snd.snd+(1:Int)))))))))))))))))))))))
 (kX (alts:=Z9 x1 a4) (.inl x0) (.here _ rfl (.refl _) (.refl _)))) h))
theorem Wp(x0:Q1)(x1:List Qb)(r:(Int×Q1))(h:QM x0 x1=some r):PH 47 [.ptr 0 0 0,Zx x1] [.cells 0 [.sl 8 (List.map Q7 x0.fnest.fBufs),.sl 20 (List.map Qg x0.fnest.fBody),.ow 1 0 1 (List.length x0.floops),.ow 2 0 1 (List.length x0.fscope),.ow 3 0 1 (List.length x0.fpath)],.own 0 1 (List.map eS x0.floops),.own 0 1 (List.map eS x0.fscope),.own 0 1 (List.map eI x0.fpath)] (QN r) (QL r):=(W1).1 x0 x1 r h
def YG(s:Qi)(u:Unit)(o:Bool):List Alt:=jb o (fun b=>[.ptr 0 0 0,.bool b]) [.cells 0 (Qw s).cells]
def U5(x0:Qi):Option (List Int×Int):=
 Yb x0.fBody (40:Int)>>=fun v0=>if v0 then
 some ()>>=fun v1=>
 (ZZ x0.fBody (2000:Int)>>=fun v3=>
 if(2000:Int)<v3 then
 some true
 else
 some (List.length x0.fBufs:Int)>>=fun v4=>
 if(128:Int)<v4 then
 some true
 else
 some false)>>=fun v2=>if v2 then
 some ([],(2:Int))
 else
 V4 x0.fBufs>>=fun v7=>
 if v7 !=(0:Int) then
 some ([],v7)
 else
 QM (Q1.mk x0 [] [] []) x0.fBody>>=fun v8=>
 if v8.fst !=(0:Int) then
 some (v8.snd.fpath,v8.fst)
 else
 some ([],(0:Int))
 else
 some ([],(13:Int))
theorem Il(x0:Qi)(r:(List Int×Int))(h:U5 x0=some r):PU 19 [Qw x0] (Vq r):=
 Pu2 (hs:=[(9,.cb),(13,.c eI),(14,.split),(18,.n eI 18 none),(19,.split),(23,.c eI),(25,.split),(33,.h [kk 0,{slot:=0,path:=[2],own:=1},{slot:=0,path:=[3],own:=1},{slot:=0,path:=[4],own:=1}] QN QL),(35,.split),(5000003,.l [] [] [] [1,20] [kk 1] (YG x0))]) ((kCb (HZ x0.fBody (40:Int)) (kJb (id:=5000003) () (fun v1 a4 v2=>(kC (sh:=eI) (Ls x0.fBody (2000:Int)) fun v3=>(kIfD (p:=(2000:Int)<v3) (kXj (alts:=YG x0) a4 true (.here () rfl (.refl _) (.refl _)))
 (kN _ (mLen (sh:=Q7) x0.fBufs) fun v4=>(kIfD (p:=(128:Int)<v4) (kXj (alts:=YG x0) a4 true (.here () rfl (.refl _) (.refl _)))
 (kXj (alts:=YG x0) a4 false (.next (.here () rfl (.refl _) (.refl _)))))))))
 (fun v1=>(kE (enc:=Vq) ([],(2:Int)) (LeT.tup (.cons (LeT.nil 1) (.cons (LeT.refl (ii (2:Int))) .nil)))))
 (fun v1=>(kC (sh:=eI) (Mr x0.fBufs) fun v7=>(kIf (c:=v7 !=(0:Int)) (kE (enc:=Vq) ([],v7) (LeT.tup (.cons (LeT.nil 1) (.cons (LeT.refl (ii v7)) .nil))))
 (kH (sh:=QN) (bt:=QL) (Wp (Q1.mk x0 [] [] []) x0.fBody) fun v8=>(kIf (c:=v8.fst !=(0:Int)) (kT (nM (sh:=eI) v8.snd.fpath) (kEr (enc:=Vq) (v8.snd.fpath,v8.fst)))
 (kE (enc:=Vq) ([],(0:Int)) (LeT.tup (.cons (LeT.nil 1) (.cons (LeT.refl (ii (0:Int))) .nil))))))))))
 (kE (enc:=Vq) ([],(13:Int)) (LeT.tup (.cons (LeT.nil 1) (.cons (LeT.refl (ii (13:Int))) .nil))))) h)
end Go.Proofs.YtolcgikajjkjgaaGreatDoor
end
