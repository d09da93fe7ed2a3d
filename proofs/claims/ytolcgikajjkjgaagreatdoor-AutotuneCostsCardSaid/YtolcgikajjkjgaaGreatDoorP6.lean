/- Proved in the last of these texts: for every input the law returns true and its arguments read afterwards as they read before. This text: a part of the proof. -/
import Derived.Test.YtolcgikajjkjgaaGreatDoorP5
noncomputable section
namespace Go.Proofs.YtolcgikajjkjgaaGreatDoor
open Go HY
set_option maxRecDepth 1000000
set_option linter.unusedVariables false
def JU(s:((List Qb)×Int))(u:Unit)(o:Int):List Alt:=[⟨fun(x:Int)=>x=o,.exit 0,fun x=>[ii x],fun x=>[]⟩]
def VE(s:((List Qb)×Int))(u:(Int×Int))(o:Bool):List Alt:=jb o (fun b=>[.sl 20 (List.map Qg (s.1)),ii (s.2),ii (u.1),ii (u.2),.bool b]) []
mutual
def V1(x0:List Qb)(x1:Int):Option Int:=
 some ()>>=fun v0=>
 X9 x0 x1 (0:Int) (0:Int)>>=fun v2=>
 some v2
 partial_fixpoint
def X9(x0:List Qb)(x1:Int)(x5:Int)(x6:Int):Option Int:=
 some (x5,x6)>>=fun v0=>
 (some (List.length x0:Int)>>=fun v2=>
 if x6<v2 then
 if(0:Int)<x1 then
 some true
 else
 some false
 else
 some false)>>=fun v1=>if v1 then
 Option.map Qb.f (ix x0 v0.snd)>>=fun v4=>
 V1 v4.fBody (wr (x1 - (1:Int)))>>=fun v5=>
 X9 x0 x1 (if true=true then max v0.fst (wr ((1:Int)+v5)) else min v0.fst (wr ((1:Int)+v5))) (wr (v0.snd+(1:Int)))
 else
 some v0.fst
 partial_fixpoint
end
theorem Tc:(∀(x0:List Qb) (x1:Int) (r:Int),V1 x0 x1=some r→PU 53 [Zx x0,eI x1] (eI r))∧(∀(x0:List Qb) (x1:Int) (x5:Int) (x6:Int) (o:Int),X9 x0 x1 x5 x6=some o→LO 53 3 29 [0,1,5,6] [.sl 20 (List.map Qg x0),ii x1,ii x5,ii x6] [] [5] (JU (x0,x1) () o)):=
 V1.mutual_partial_correctness (fun x0 x1 r=>PU 53 [Zx x0,eI x1] (eI r)) (fun x0 x1 x5 x6 o=>LO 53 3 29 [0,1,5,6] [.sl 20 (List.map Qg x0),ii x1,ii x5,ii x6] [] [5] (JU (x0,x1) () o))
 (fun X9 Q4c x0 x1 r h=>
 Pu2 (hs:=[(3000004,.l [] [0,1,5,6] [] [5] [] (JU (x0,x1)))]) ((kL1 () (Q4c x0 x1 (0:Int) (0:Int)) fun v0 v2=>(kEr (enc:=eI) v2)) h))
 (fun V1 X9 Q4b Q4c x0 x1 x5 x6 o h=>
 Lp2 (hs:=[(9,.n eI 9 none),(10,.split),(13,.split),(20,.e Qv),(25,.c eI),(5000003,.l [] [] [] [0,1,5,6,14] [] (VE (x0,x1)))]) (kb:=[]) (kbx:=[]) ((kJb (id:=5000003) (x5,x6) (fun v0 a6 v1=>(kN _ (mLen (sh:=Qg) x0) fun v2=>(kIfD (p:=x6<v2) (kIfD (p:=(0:Int)<x1) (kXj (alts:=VE (x0,x1)) a6 true (.here () rfl (.refl _) (.refl _)))
 (kXj (alts:=VE (x0,x1)) a6 false (.next (.here () rfl (.refl _) (.refl _)))))
 (kXj (alts:=VE (x0,x1)) a6 false (.next (.here () rfl (.refl _) (.refl _)))))))
 (fun v0=>(kIxR (l:=x0) (k:=v0.snd) YD fun v4=>(kC (sh:=eI) (Q4b v4.fBody (wr (x1 - (1:Int)))) fun v5=>(kM0 (alts:=JU (x0,x1) ()) (Q4c x0 x1 (if true=true then max v0.fst (wr ((1:Int)+v5)) else min v0.fst (wr ((1:Int)+v5))) (wr (v0.snd+(1:Int))))))))
 (fun v0=>(kX (alts:=JU (x0,x1) ()) v0.fst (.here _ rfl (.refl _) (.refl _))))) h))
theorem SR(x0:List Qb)(x1:Int)(r:Int)(h:V1 x0 x1=some r):PU 53 [Zx x0,eI x1] (eI r):=(Tc).1 x0 x1 r h
def Uo(s:((List Qb)×Int))(u:Unit)(o:Int):List Alt:=[⟨fun(x:Int)=>x=o,.exit 0,fun x=>[ii x],fun x=>[]⟩]
def J9(s:((List Qb)×Int))(u:(Int×Int))(o:Bool):List Alt:=jb o (fun b=>[.sl 20 (List.map Qg (s.1)),ii (s.2),ii (u.1),ii (u.2),.bool b]) []
mutual
def VT(x0:List Qb)(x1:Int):Option Int:=
 some (List.length x0:Int)>>=fun v0=>
 some (v0:Int)>>=fun v1=>
 some ()>>=fun v2=>
 Yq x0 x1 v1 (0:Int)>>=fun v4=>
 some v4
 partial_fixpoint
def Yq(x0:List Qb)(x1:Int)(x5:Int)(x6:Int):Option Int:=
 some (x5,x6)>>=fun v0=>
 (some (List.length x0:Int)>>=fun v2=>
 if x6<v2 then
 if x5≤x1 then
 some true
 else
 some false
 else
 some false)>>=fun v1=>if v1 then
 Option.map Qb.f (ix x0 v0.snd)>>=fun v4=>
 VT v4.fBody (if true=true then max (0:Int) (wr (x1 - v0.fst)) else min (0:Int) (wr (x1 - v0.fst)))>>=fun v5=>
 some (wr (v0.fst+v5):Int)>>=fun v6=>
 Yq x0 x1 v6 (wr (v0.snd+(1:Int)))
 else
 some v0.fst
 partial_fixpoint
end
theorem SB:(∀(x0:List Qb) (x1:Int) (r:Int),VT x0 x1=some r→PU 54 [Zx x0,eI x1] (eI r))∧(∀(x0:List Qb) (x1:Int) (x5:Int) (x6:Int) (o:Int),Yq x0 x1 x5 x6=some o→LO 54 3 33 [0,1,5,6] [.sl 20 (List.map Qg x0),ii x1,ii x5,ii x6] [] [5] (Uo (x0,x1) () o)):=
 VT.mutual_partial_correctness (fun x0 x1 r=>PU 54 [Zx x0,eI x1] (eI r)) (fun x0 x1 x5 x6 o=>LO 54 3 33 [0,1,5,6] [.sl 20 (List.map Qg x0),ii x1,ii x5,ii x6] [] [5] (Uo (x0,x1) () o))
 (fun Yq Q4g x0 x1 r h=>
 Pu2 (hs:=[(8,.n eI 8 none),(5,.n eI 5 none),(3000004,.l [] [0,1,5,6] [] [5] [] (Uo (x0,x1)))]) ((kN _ (mLen (sh:=Qg) x0) fun v0=>(kN v0 rfl fun v1=>(kL1 () (Q4g x0 x1 v1 (0:Int)) fun v2 v4=>(kEr (enc:=eI) v4)))) h))
 (fun VT Yq Q4f Q4g x0 x1 x5 x6 o h=>
 Lp2 (hs:=[(11,.n eI 11 none),(12,.split),(16,.split),(23,.e Qv),(30,.c eI),(5,.n eI 5 none),(5000003,.l [] [] [] [0,1,5,6,17] [] (J9 (x0,x1)))]) (kb:=[]) (kbx:=[]) ((kJb (id:=5000003) (x5,x6) (fun v0 a6 v1=>(kN _ (mLen (sh:=Qg) x0) fun v2=>(kIfD (p:=x6<v2) (kIfD (p:=x5≤x1) (kXj (alts:=J9 (x0,x1)) a6 true (.here () rfl (.refl _) (.refl _)))
 (kXj (alts:=J9 (x0,x1)) a6 false (.next (.here () rfl (.refl _) (.refl _)))))
 (kXj (alts:=J9 (x0,x1)) a6 false (.next (.here () rfl (.refl _) (.refl _)))))))
 (fun v0=>(kIxR (l:=x0) (k:=v0.snd) YD fun v4=>(kC (sh:=eI) (Q4f v4.fBody (if true=true then max (0:Int) (wr (x1 - v0.fst)) else min (0:Int) (wr (x1 - v0.fst)))) fun v5=>(kN (wr (v0.fst+v5)) rfl fun v6=>(kM0 (alts:=Uo (x0,x1) ()) (Q4g x0 x1 v6 (wr (v0.snd+(1:Int)))))))))
 (fun v0=>(kX (alts:=Uo (x0,x1) ()) v0.fst (.here _ rfl (.refl _) (.refl _))))) h))
theorem AK(x0:List Qb)(x1:Int)(r:Int)(h:VT x0 x1=some r):PU 54 [Zx x0,eI x1] (eI r):=(SB).1 x0 x1 r h
def M1:Option (List Str):=
 some [[(115:UInt8),(105:UInt8),(122:UInt8),(101:UInt8)],[(119:UInt8),(104:UInt8),(101:UInt8),(114:UInt8),(101:UInt8)],[(105:UInt8),(110:UInt8)],[(100:UInt8),(101:UInt8),(102:UInt8)],[(111:UInt8),(117:UInt8),(116:UInt8)],[(115:UInt8),(117:UInt8),(109:UInt8)],[(112:UInt8),(114:UInt8),(111:UInt8),(100:UInt8)],[(109:UInt8),(105:UInt8),(110:UInt8)],[(109:UInt8),(97:UInt8),(120:UInt8)],[(115:UInt8),(99:UInt8),(97:UInt8),(110:UInt8)],[(111:UInt8),(118:UInt8),(101:UInt8),(114:UInt8)],[(105:UInt8),(102:UInt8)],[(99:UInt8),(97:UInt8),(115:UInt8),(116:UInt8)],[(102:UInt8),(114:UInt8),(97:UInt8),(99:UInt8)],[(105:UInt8),(110:UInt8),(116:UInt8)],[(102:UInt8),(105:UInt8),(120:UInt8)],[(99:UInt8),(101:UInt8),(105:UInt8),(108:UInt8)],[(102:UInt8),(108:UInt8),(111:UInt8),(111:UInt8),(114:UInt8)],[(122:UInt8),(101:UInt8),(114:UInt8),(111:UInt8)],[(101:UInt8),(118:UInt8),(101:UInt8),(110:UInt8)],[(115:UInt8),(97:UInt8),(116:UInt8)],[(119:UInt8),(114:UInt8),(97:UInt8),(112:UInt8)]]
theorem At(r:List Str)(h:M1=some r):PU 102 [] (eLS r):=
 Pu2 (hs:=[(0,.z [{slot:=1,own:=1},{slot:=1,fz:=true}] none)]) ((kT (rfl:(22:Nat)=(22:Nat)) (kEr (enc:=eLS) [[(115:UInt8),(105:UInt8),(122:UInt8),(101:UInt8)],[(119:UInt8),(104:UInt8),(101:UInt8),(114:UInt8),(101:UInt8)],[(105:UInt8),(110:UInt8)],[(100:UInt8),(101:UInt8),(102:UInt8)],[(111:UInt8),(117:UInt8),(116:UInt8)],[(115:UInt8),(117:UInt8),(109:UInt8)],[(112:UInt8),(114:UInt8),(111:UInt8),(100:UInt8)],[(109:UInt8),(105:UInt8),(110:UInt8)],[(109:UInt8),(97:UInt8),(120:UInt8)],[(115:UInt8),(99:UInt8),(97:UInt8),(110:UInt8)],[(111:UInt8),(118:UInt8),(101:UInt8),(114:UInt8)],[(105:UInt8),(102:UInt8)],[(99:UInt8),(97:UInt8),(115:UInt8),(116:UInt8)],[(102:UInt8),(114:UInt8),(97:UInt8),(99:UInt8)],[(105:UInt8),(110:UInt8),(116:UInt8)],[(102:UInt8),(105:UInt8),(120:UInt8)],[(99:UInt8),(101:UInt8),(105:UInt8),(108:UInt8)],[(102:UInt8),(108:UInt8),(111:UInt8),(111:UInt8),(114:UInt8)],[(122:UInt8),(101:UInt8),(114:UInt8),(111:UInt8)],[(101:UInt8),(118:UInt8),(101:UInt8),(110:UInt8)],[(115:UInt8),(97:UInt8),(116:UInt8)],[(119:UInt8),(114:UInt8),(97:UInt8),(112:UInt8)]])) h)
def U9(s:((List Str)×Str))(u:Unit)(o:Unit ⊕ Bool):List Alt:=[⟨fun(x:Unit)=>(Sum.inl x:Unit ⊕ Bool)=o,.exit 0,fun x=>[.undef],fun x=>[]⟩,⟨fun(x:Bool)=>(Sum.inr x:Unit ⊕ Bool)=o,.ret,fun x=>[.bool x],fun x=>[]⟩]
def Y2(x0:List Str)(x1:Str)(x5:Int):Option (Unit ⊕ Bool):=
 some (List.length x0:Int)>>=fun v0=>
 if x5<v0 then
 ix x0 x5>>=fun v1=>
 if v1==x1 then
 some (.inr true)
 else
 Y2 x0 x1 (wr (x5+(1:Int)))
 else
 some (.inl ())
 partial_fixpoint
theorem SD(x0:List Str)(x1:Str)(x5:Int)(o:Unit ⊕ Bool)(h:Y2 x0 x1 x5=some o):LO 101 2 18 [0,1,5] [.sl 1 (List.map eS x0),.str x1,ii x5] [] [4] (U9 (x0,x1) () o):=
 Y2.partial_correctness x0 x1 (fun x5 o=>LO 101 2 18 [0,1,5] [.sl 1 (List.map eS x0),.str x1,ii x5] [] [4] (U9 (x0,x1) () o))
 (fun Y2 Q2k x5 o h=>
 Lp2 (hs:=[(8,.n eI 8 none),(9,.split),(14,.e eS),(17,.split)]) (kb:=[]) (kbx:=[]) ((kN _ (mLen (sh:=eS) x0) fun v0=>(kIfD (p:=x5<v0) (kIx (enc:=eS) (l:=x0) (k:=x5) fun v1=>(kIf (c:=v1==x1) (kX (alts:=U9 (x0,x1) ()) (.inr true) (.next (.here _ rfl (.refl _) (.refl _))))
 (kM0 (alts:=U9 (x0,x1) ()) (Q2k (wr (x5+(1:Int)))))))
 (kX (alts:=U9 (x0,x1) ()) (.inl ()) (.here _ rfl (.refl _) (.refl _))))) h)) x5 o h
def Gd(x0:List Str)(x1:Str):Option Bool:=
 some ()>>=fun v0=>
 Y2 x0 x1 (0:Int)>>=fun v1=>(match v1 with
 | (.inl v2)=>
 some false
 | (.inr v3)=>
 some v3)
theorem R4(x0:List Str)(x1:Str)(r:Bool)(h:Gd x0 x1=some r):PU 101 [eLS x0,eS x1] (eB r):=
 Pu2 (hs:=[(3000003,.l [] [0,1,5] [] [4] [] (U9 (x0,x1)))]) ((kL2 () (hL:=(SD x0 x1 (0:Int))) (hA:=fun v0 v2=>(kEr (enc:=eB) false))
 (hB:=fun v0 v3=>(kEr (enc:=eB) v3))) h)
def JM(s:Str)(u:Unit)(o:Unit ⊕ Bool):List Alt:=[⟨fun(x:Unit)=>(Sum.inl x:Unit ⊕ Bool)=o,.exit 0,fun x=>[.undef],fun x=>[]⟩,⟨fun(x:Bool)=>(Sum.inr x:Unit ⊕ Bool)=o,.ret,fun x=>[.bool x],fun x=>[]⟩]
def QE(s:Str)(u:Int)(o:Bool):List Alt:=jb o (fun b=>[.str s,ii u,.bool b]) []
def XA(x0:Str)(x3:Int):Option (Unit ⊕ Bool):=
 if x3< (↑(List.length x0):Int) then
 ix x0 x3>>=fun v0=>
 some x3>>=fun v1=>
 (if(97:Int)≤(↑v0.toNat:Int) then
 if(↑v0.toNat:Int)≤(122:Int) then
 some false
 else
 if(0:Int)<x3 then
 if(48:Int)≤(↑v0.toNat:Int) then
 if(↑v0.toNat:Int)≤(57:Int) then
 some false
 else
 if(↑v0.toNat:Int)==(95:Int) then
 some false
 else
 some true
 else
 if(↑v0.toNat:Int)==(95:Int) then
 some false
 else
 some true
 else
 some true
 else
 if(0:Int)<x3 then
 if(48:Int)≤(↑v0.toNat:Int) then
 if(↑v0.toNat:Int)≤(57:Int) then
 some false
 else
 if(↑v0.toNat:Int)==(95:Int) then
 some false
 else
 some true
 else
 if(↑v0.toNat:Int)==(95:Int) then
 some false
 else
 some true
 else
 some true)>>=fun v2=>if v2 then
 some (.inr false)
 else
 XA x0 (wr (v1+(1:Int)))
 else
 some (.inl ())
 partial_fixpoint
theorem Tg(x0:Str)(x3:Int)(o:Unit ⊕ Bool)(h:XA x0 x3=some o):LO 77 4 50 [0,3] [.str x0,ii x3] [] [2] (JM x0 () o):=
 XA.partial_correctness x0 (fun x3 o=>LO 77 4 50 [0,3] [.str x0,ii x3] [] [2] (JM x0 () o))
 (fun XA Q2p x3 o h=>
 Lp2 (hs:=[(21,.split),(26,.u),(28,.split),(31,.split),(35,.split),(38,.split),(41,.split),(45,.split),(5000007,.l [] [] [] [0,3,49] [] (QE x0))]) (kb:=[]) (kbx:=[]) ((kIfD (p:=x3< (↑(List.length x0):Int)) (kU (s:=x0) (k:=x3) fun v0=>(kJb (id:=5000007) x3 (fun v1 a3 v2=>(kIfD (p:=(97:Int)≤(↑v0.toNat:Int)) (kIfD (p:=(↑v0.toNat:Int)≤(122:Int)) (kXj (alts:=QE x0) a3 false (.next (.here () rfl (.refl _) (.refl _))))
 (kIfD (p:=(0:Int)<x3) (kIfD (p:=(48:Int)≤(↑v0.toNat:Int)) (kIfD (p:=(↑v0.toNat:Int)≤(57:Int)) (kXj (alts:=QE x0) a3 false (.next (.here () rfl (.refl _) (.refl _))))
 (kIf (c:=(↑v0.toNat:Int)==(95:Int)) (kXj (alts:=QE x0) a3 false (.next (.here () rfl (.refl _) (.refl _))))
 (kXj (alts:=QE x0) a3 true (.here () rfl (.refl _) (.refl _)))))
 (kIf (c:=(↑v0.toNat:Int)==(95:Int)) (kXj (alts:=QE x0) a3 false (.next (.here () rfl (.refl _) (.refl _))))
 (kXj (alts:=QE x0) a3 true (.here () rfl (.refl _) (.refl _)))))
 (kXj (alts:=QE x0) a3 true (.here () rfl (.refl _) (.refl _)))))
 (kIfD (p:=(0:Int)<x3) (kIfD (p:=(48:Int)≤(↑v0.toNat:Int)) (kIfD (p:=(↑v0.toNat:Int)≤(57:Int)) (kXj (alts:=QE x0) a3 false (.next (.here () rfl (.refl _) (.refl _))))
 (kIf (c:=(↑v0.toNat:Int)==(95:Int)) (kXj (alts:=QE x0) a3 false (.next (.here () rfl (.refl _) (.refl _))))
 (kXj (alts:=QE x0) a3 true (.here () rfl (.refl _) (.refl _)))))
 (kIf (c:=(↑v0.toNat:Int)==(95:Int)) (kXj (alts:=QE x0) a3 false (.next (.here () rfl (.refl _) (.refl _))))
 (kXj (alts:=QE x0) a3 true (.here () rfl (.refl _) (.refl _)))))
 (kXj (alts:=QE x0) a3 true (.here () rfl (.refl _) (.refl _))))))
 (fun v1=>(kX (alts:=JM x0 ()) (.inr false) (.next (.here _ rfl (.refl _) (.refl _)))))
 (fun v1=>(kM0 (alts:=JM x0 ()) (Q2p (wr (v1+(1:Int))))))))
 (kX (alts:=JM x0 ()) (.inl ()) (.here _ rfl (.refl _) (.refl _)))) h)) x3 o h
def KE(s:Str)(u:Unit)(o:Bool):List Alt:=jb o (fun b=>[.str s,.bool b]) []
def JE(x0:Str):Option Bool:=
 some ()>>=fun v0=>
 (if(↑(List.length x0):Int)< (1:Int) then
 some true
 else
 if(16:Int)< (↑(List.length x0):Int) then
 some true
 else
 M1>>=fun v2=>
 Gd v2 x0>>=fun v3=>if v3 then
 some true
 else
 some false)>>=fun v1=>if v1 then
 some false
 else
 some ()>>=fun v6=>
 XA x0 (0:Int)>>=fun v7=>(match v7 with
 | (.inl v8)=>
 some true
 | (.inr v9)=>
 some v9)
theorem DQ(x0:Str)(r:Bool)(h:JE x0=some r):PU 77 [eS x0] (eB r):=
 Pu2 (hs:=[(7,.split),(11,.split),(14,.c eLS),(16,.cb),(3000005,.l [] [0,3] [] [2] [] (JM x0)),(5000001,.l [] [] [] [0,17] [] (KE x0))]) ((kJb (id:=5000001) () (fun v0 a4 v1=>(kIfD (p:=(↑(List.length x0):Int)< (1:Int)) (kXj (alts:=KE x0) a4 true (.here () rfl (.refl _) (.refl _)))
 (kIfD (p:=(16:Int)< (↑(List.length x0):Int)) (kXj (alts:=KE x0) a4 true (.here () rfl (.refl _) (.refl _)))
 (kC (sh:=eLS) (At) fun v2=>(kCb (R4 v2 x0) (kXj (alts:=KE x0) a4 true (.here () rfl (.refl _) (.refl _)))
 (kXj (alts:=KE x0) a4 false (.next (.here () rfl (.refl _) (.refl _)))))))))
 (fun v0=>(kEr (enc:=eB) false))
 (fun v0=>(kL2 () (hL:=(Tg x0 (0:Int))) (hA:=fun v6 v8=>(kEr (enc:=eB) true))
 (hB:=fun v6 v9=>(kEr (enc:=eB) v9))))) h)
def Jt(s:Q8)(u:Unit)(o:Bool):List Alt:=jb o (fun b=>[.ptr 0 0 0,.bool b]) [.cells 0 (Qd s).cells]
def Gy(x0:Q8):Option Bool:=
 some ()>>=fun v0=>
 (if x0.fKind==(1:Int) then
 some true
 else
 if x0.fKind==(3:Int) then
 some true
 else
 some false)>>=fun v1=>if v1 then
 if x0.fBits==(0:Int) then
 if x0.fFrac==(0:Int) then
 if x0.fRound==(0:Int) then
 some (x0.fOver==(0:Int))
 else
 some false
 else
 some false
 else
 some false
 else
 if x0.fKind==(2:Int) then
 if(2:Int)≤x0.fBits then
 if x0.fBits≤(31:Int) then
 if(0:Int)≤x0.fFrac then
 if x0.fFrac≤(30:Int) then
 if(1:Int)≤x0.fRound then
 if x0.fRound≤(4:Int) then
 if x0.fOver==(1:Int) then
 some true
 else
 some (x0.fOver==(2:Int))
 else
 some false
 else
 some false
 else
 some false
 else
 some false
 else
 some false
 else
 some false
 else
 some false
theorem MM(x0:Q8)(r:Bool)(h:Gy x0=some r):PU 68 [Qd x0] (eB r):=
 Pu2 (hs:=[(5,.split),(9,.split),(13,.split),(17,.split),(22,.split),(31,.split),(35,.split),(40,.split),(45,.split),(50,.split),(55,.split),(60,.split),(65,.split),(5000001,.l [] [] [] [1,10] [kk 1] (Jt x0))]) ((kJb (id:=5000001) () (fun v0 a4 v1=>(kIf (c:=x0.fKind==(1:Int)) (kXj (alts:=Jt x0) a4 true (.here () rfl (.refl _) (.refl _)))
 (kIf (c:=x0.fKind==(3:Int)) (kXj (alts:=Jt x0) a4 true (.here () rfl (.refl _) (.refl _)))
 (kXj (alts:=Jt x0) a4 false (.next (.here () rfl (.refl _) (.refl _)))))))
 (fun v0=>(kIf (c:=x0.fBits==(0:Int)) (kIf (c:=x0.fFrac==(0:Int)) (kIf (c:=x0.fRound==(0:Int)) (kEr (enc:=eB) (x0.fOver==(0:Int)))
 (kEr (enc:=eB) false))
 (kEr (enc:=eB) false))
 (kEr (enc:=eB) false)))
 (fun v0=>(kIf (c:=x0.fKind==(2:Int)) (kIfD (p:=(2:Int)≤x0.fBits) (kIfD (p:=x0.fBits≤(31:Int)) (kIfD (p:=(0:Int)≤x0.fFrac) (kIfD (p:=x0.fFrac≤(30:Int)) (kIfD (p:=(1:Int)≤x0.fRound) (kIfD (p:=x0.fRound≤(4:Int)) (kIf (c:=x0.fOver==(1:Int)) (kEr (enc:=eB) true)
 (kEr (enc:=eB) (x0.fOver==(2:Int))))
 (kEr (enc:=eB) false))
 (kEr (enc:=eB) false))
 (kEr (enc:=eB) false))
 (kEr (enc:=eB) false))
 (kEr (enc:=eB) false))
 (kEr (enc:=eB) false))
 (kEr (enc:=eB) false)))) h)
def XP(s:List Int)(u:Unit)(o:Unit ⊕ Int):List Alt:=[⟨fun(x:Unit)=>(Sum.inl x:Unit ⊕ Int)=o,.exit 2,fun x=>[.undef],fun x=>[]⟩,⟨fun(x:Int)=>(Sum.inr x:Unit ⊕ Int)=o,.ret,fun x=>[ii x],fun x=>[]⟩]
def ZF(x0:List Int)(x4:Int)(x5:Int):Option (Unit ⊕ Int):=
 some (List.length x0:Int)>>=fun v0=>
 if x5<v0 then
 ix x0 x5>>=fun v1=>
 if(4096:Int)<v1 then
 some (.inr (2:Int))
 else
 ix x0 x5>>=fun v2=>
 some (wr (x4*v2):Int)>>=fun v3=>
 if(4096:Int)<v3 then
 some (.inr (2:Int))
 else
 ZF x0 v3 (wr (x5+(1:Int)))
 else
 some (.inl ())
 partial_fixpoint
theorem Lt(x0:List Int)(x4:Int)(x5:Int)(o:Unit ⊕ Int)(h:ZF x0 x4 x5=some o):LO 59 10 39 [0,4,5] [.sl 1 (List.map eI x0),ii x4,ii x5] [] [2] (XP x0 () o):=
 ZF.partial_correctness x0 (fun x4 x5 o=>LO 59 10 39 [0,4,5] [.sl 1 (List.map eI x0),ii x4,ii x5] [] [2] (XP x0 () o))
 (fun ZF Q3k x4 x5 o h=>
 Lp2 (hs:=[(22,.n eI 22 none),(23,.split),(28,.e eI),(30,.split),(34,.e eI),(4,.n eI 4 none),(38,.split)]) (kb:=[]) (kbx:=[]) ((kN _ (mLen (sh:=eI) x0) fun v0=>(kIfD (p:=x5<v0) (kIx (enc:=eI) (l:=x0) (k:=x5) fun v1=>(kIfD (p:=(4096:Int)<v1) (kX (alts:=XP x0 ()) (.inr (2:Int)) (.next (.here _ rfl (.refl _) (.refl _))))
 (kIx (enc:=eI) (l:=x0) (k:=x5) fun v2=>(kN (wr (x4*v2)) rfl fun v3=>(kIfD (p:=(4096:Int)<v3) (kX (alts:=XP x0 ()) (.inr (2:Int)) (.next (.here _ rfl (.refl _) (.refl _))))
 (kM0 (alts:=XP x0 ()) (Q3k v3 (wr (x5+(1:Int))))))))))
 (kX (alts:=XP x0 ()) (.inl ()) (.here _ rfl (.refl _) (.refl _))))) h)) x4 x5 o h
def YY(s:List Int)(u:Unit)(o:Unit ⊕ Int):List Alt:=[⟨fun(x:Unit)=>(Sum.inl x:Unit ⊕ Int)=o,.exit 0,fun x=>[.sl 1 (List.map eI s),.undef],fun x=>[]⟩,⟨fun(x:Int)=>(Sum.inr x:Unit ⊕ Int)=o,.ret,fun x=>[.sl 1 (List.map eI s),ii x],fun x=>[]⟩]
def ZQ(x0:List Int)(x3:Int):Option (Unit ⊕ Int):=
 some (List.length x0:Int)>>=fun v0=>
 if x3<v0 then
 ix x0 x3>>=fun v1=>
 if v1< (1:Int) then
 some (.inr (1:Int))
 else
 ZQ x0 (wr (x3+(1:Int)))
 else
 some (.inl ())
 partial_fixpoint
theorem Im(x0:List Int)(x3:Int)(o:Unit ⊕ Int)(h:ZQ x0 x3=some o):LO 59 4 39 [0,3] [.sl 1 (List.map eI x0),ii x3] [] [0,2] (YY x0 () o):=
 ZQ.partial_correctness x0 (fun x3 o=>LO 59 4 39 [0,3] [.sl 1 (List.map eI x0),ii x3] [] [0,2] (YY x0 () o))
 (fun ZQ Q3l x3 o h=>
 Lp2 (hs:=[(11,.n eI 11 none),(12,.split),(17,.e eI),(19,.split)]) (kb:=[]) (kbx:=[]) ((kN _ (mLen (sh:=eI) x0) fun v0=>(kIfD (p:=x3<v0) (kIx (enc:=eI) (l:=x0) (k:=x3) fun v1=>(kIfD (p:=v1< (1:Int)) (kX (alts:=YY x0 ()) (.inr (1:Int)) (.next (.here _ rfl (.refl _) (.refl _))))
 (kM0 (alts:=YY x0 ()) (Q3l (wr (x3+(1:Int)))))))
 (kX (alts:=YY x0 ()) (.inl ()) (.here _ rfl (.refl _) (.refl _))))) h)) x3 o h
def U0(x0:List Int):Option Int:=
 some (List.length x0:Int)>>=fun v0=>
 if(6:Int)<v0 then
 some (2:Int)
 else
 some ()>>=fun v1=>
 ZQ x0 (0:Int)>>=fun v2=>(match v2 with
 | (.inl v3)=>
 some ((1:Int):Int)>>=fun v4=>
 some ()>>=fun v5=>
 ZF x0 v4 (0:Int)>>=fun v6=>(match v6 with
 | (.inl v7)=>
 some (0:Int)
 | (.inr v8)=>
 some v8)
 | (.inr v9)=>
 some v9)
theorem M6(x0:List Int)(r:Int)(h:U0 x0=some r):PU 59 [eLI x0] (eI r):=
 Pu2 (hs:=[(7,.n eI 7 none),(8,.split),(4,.n eI 4 none),(3000011,.l [] [0,4,5] [] [2] [] (XP x0)),(3000005,.l [] [0,3] [] [0,2] [] (YY x0))]) ((kN _ (mLen (sh:=eI) x0) fun v0=>(kIfD (p:=(6:Int)<v0) (kEr (enc:=eI) (2:Int))
 (kL2 () (hL:=(Im x0 (0:Int))) (hA:=fun v1 v3=>(kN (1:Int) rfl fun v4=>(kL2 () (hL:=(Lt x0 v4 (0:Int))) (hA:=fun v5 v7=>(kEr (enc:=eI) (0:Int)))
 (hB:=fun v5 v8=>(kEr (enc:=eI) v8)))))
 (hB:=fun v1 v9=>(kEr (enc:=eI) v9))))) h)
def J7(s:Qi)(u:(Int×Qc))(o:Unit ⊕ Int):List Alt:=[⟨fun(x:Unit)=>(Sum.inl x:Unit ⊕ Int)=o,.exit 2,fun x=>[.ptr 0 0 0,.undef,ii u.1,.ptr 1 0 0],fun x=>[.cells 0 (Qw s).cells,.cells 0 (Q7 u.2).cells]⟩,⟨fun(x:Int)=>(Sum.inr x:Unit ⊕ Int)=o,.ret,fun x=>[.ptr 0 0 0,ii x,ii u.1,.ptr 1 0 0],fun x=>[.cells 0 (Qw s).cells,.cells 0 (Q7 u.2).cells]⟩]
def Yo(x1:Qi)(x3:Int)(x4:Qc)(x5:Int):Option (Unit ⊕ Int):=
 if x5<x3 then
 ix x1.fBufs x5>>=fun v0=>
 if v0.fName==x4.fName then
 some (.inr (8:Int))
 else
 Yo x1 x3 x4 (wr (x5+(1:Int)))
 else
 some (.inl ())
 partial_fixpoint
theorem Rf(x1:Qi)(x3:Int)(x4:Qc)(x5:Int)(o:Unit ⊕ Int)(h:Yo x1 x3 x4 x5=some o):LO 55 8 55 [1,3,4,5] [.ptr 0 0 0,ii x3,.ptr 1 0 0,ii x5] [.cells 0 (Qw x1).cells,.cells 0 (Q7 x4).cells] [1,2,3,4] (J7 x1 (x3,x4) o):=
 Yo.partial_correctness x1 x3 x4 (fun x5 o=>LO 55 8 55 [1,3,4,5] [.ptr 0 0 0,ii x3,.ptr 1 0 0,ii x5] [.cells 0 (Qw x1).cells,.cells 0 (Q7 x4).cells] [1,2,3,4] (J7 x1 (x3,x4) o))
 (fun Yo Q4a x5 o h=>
 Lp2 (hs:=[(25,.split),(31,.e Q7),(36,.split)]) (kb:=[kk 1,kk 4]) (kbx:=[kk 1,kk 4]) ((kIfD (p:=x5<x3) (kIx (enc:=Q7) (l:=x1.fBufs) (k:=x5) fun v0=>(kIf (c:=v0.fName==x4.fName) (kX (alts:=J7 x1 (x3,x4)) (.inr (8:Int)) (.next (.here _ rfl (.refl _) (.refl _))))
 (kM0 (alts:=J7 x1 (x3,x4)) (Q4a (wr (x5+(1:Int)))))))
 (kX (alts:=J7 x1 (x3,x4)) (.inl ()) (.here _ rfl (.refl _) (.refl _)))) h)) x5 o h
def XF(s:Qi)(u:Unit)(o:Unit ⊕ Int):List Alt:=[⟨fun(x:Unit)=>(Sum.inl x:Unit ⊕ Int)=o,.exit 0,fun x=>[.undef],fun x=>[]⟩,⟨fun(x:Int)=>(Sum.inr x:Unit ⊕ Int)=o,.ret,fun x=>[ii x],fun x=>[]⟩]
def J6(s:Qi)(u:Int)(o:Bool):List Alt:=jb o (fun b=>[.ptr 0 0 0,ii u,.bool b]) [.cells 0 (Qw s).cells]
def Yn(x1:Qi)(x3:Int):Option (Unit ⊕ Int):=
 some (List.length x1.fBufs:Int)>>=fun v0=>
 if x3<v0 then
 ix x1.fBufs x3>>=fun v1=>
 JE v1.fName>>=fun v2=>if v2 then
 some (x3,v1)>>=fun v3=>
 Yo x1 x3 v1 (0:Int)>>=fun v4=>(match v4 with
 | (.inl v5)=>
 Gy v3.snd.fType>>=fun v6=>if v6 then
 U0 v3.snd.fDims>>=fun v7=>
 if v7 !=(0:Int) then
 some (.inr v7)
 else
 some v3.fst>>=fun v8=>
 (if v3.snd.fUse< (1:Int) then
 some true
 else
 if(3:Int)<v3.snd.fUse then
 some true
 else
 some false)>>=fun v9=>if v9 then
 some (.inr (1:Int))
 else
 Yn x1 (wr (v8+(1:Int)))
 else
 some (.inr (10:Int))
 | (.inr v12)=>
 some (.inr v12))
 else
 some (.inr (7:Int))
 else
 some (.inl ())
 partial_fixpoint
theorem Re(x1:Qi)(x3:Int)(o:Unit ⊕ Int)(h:Yn x1 x3=some o):LO 55 2 55 [1,3] [.ptr 0 0 0,ii x3] [.cells 0 (Qw x1).cells] [2] (XF x1 () o):=
 Yn.partial_correctness x1 (fun x3 o=>LO 55 2 55 [1,3] [.ptr 0 0 0,ii x3] [.cells 0 (Qw x1).cells] [2] (XF x1 () o))
 (fun Yn Q49 x3 o h=>
 Lp2 (hs:=[(10,.n eI 10 none),(11,.split),(17,.e Q7),(21,.cb),(39,.cb),(43,.c eI),(45,.split),(49,.split),(53,.split),(3000009,.l [] [1,3,4,5] [kk 1,kk 4] [1,2,3,4] [kk 1,kk 4] (J7 x1)),(5000017,.l [] [] [] [1,3,54] [kk 1] (J6 x1))]) (kb:=[kk 1]) (kbx:=[]) ((kN _ (mLen (sh:=Q7) x1.fBufs) fun v0=>(kIfD (p:=x3<v0) (kIx (enc:=Q7) (l:=x1.fBufs) (k:=x3) fun v1=>(kCb (DQ v1.fName) (kL2 (x3,v1) (hL:=(Rf x1 x3 v1 (0:Int))) (hA:=fun v3 v5=>(kCb (MM v3.snd.fType) (kC (sh:=eI) (M6 v3.snd.fDims) fun v7=>(kIf (c:=v7 !=(0:Int)) (kX (alts:=XF x1 ()) (.inr v7) (.next (.here _ rfl (.refl _) (.refl _))))
 (kJb (id:=5000017) v3.fst (fun v8 a5 v9=>(kIfD (p:=v3.snd.fUse< (1:Int)) (kXj (alts:=J6 x1) a5 true (.here () rfl (.refl _) (.refl _)))
 (kIfD (p:=(3:Int)<v3.snd.fUse) (kXj (alts:=J6 x1) a5 true (.here () rfl (.refl _) (.refl _)))
 (kXj (alts:=J6 x1) a5 false (.next (.here () rfl (.refl _) (.refl _)))))))
 (fun v8=>(kX (alts:=XF x1 ()) (.inr (1:Int)) (.next (.here _ rfl (.refl _) (.refl _)))))
 (fun v8=>(kM0 (alts:=XF x1 ()) (Q49 (wr (v8+(1:Int)))))))))
 (kX (alts:=XF x1 ()) (.inr (10:Int)) (.next (.here _ rfl (.refl _) (.refl _))))))
 (hB:=fun v3 a8=>(kX (alts:=XF x1 ()) (.inr a8) (.next (.here _ rfl (.refl _) (.refl _))))))
 (kX (alts:=XF x1 ()) (.inr (7:Int)) (.next (.here _ rfl (.refl _) (.refl _))))))
 (kX (alts:=XF x1 ()) (.inl ()) (.here _ rfl (.refl _) (.refl _))))) h)) x3 o h
def CV(x0:Qi):Option Int:=
 some ()>>=fun v0=>
 Yn x0 (0:Int)>>=fun v1=>(match v1 with
 | (.inl v2)=>
 some (0:Int)
 | (.inr v3)=>
 some v3)
theorem AH(x0:Qi)(r:Int)(h:CV x0=some r):PU 55 [Qw x0] (eI r):=
 Pu2 (hs:=[(3000003,.l [] [1,3] [kk 1] [2] [] (XF x0))]) ((kL2 () (hL:=(Re x0 (0:Int))) (hA:=fun v0 v2=>(kEr (enc:=eI) (0:Int)))
 (hB:=fun v0 v3=>(kEr (enc:=eI) v3))) h)
def Ua(s:(gLin×gLin))(u:Unit)(o:Unit ⊕ Bool):List Alt:=[⟨fun(x:Unit)=>(Sum.inl x:Unit ⊕ Bool)=o,.exit 0,fun x=>[.undef],fun x=>[]⟩,⟨fun(x:Bool)=>(Sum.inr x:Unit ⊕ Bool)=o,.ret,fun x=>[.bool x],fun x=>[]⟩]
def Ub(x2:gLin)(x3:gLin)(x5:Int):Option (Unit ⊕ Bool):=
 some (List.length x2.fL:Int)>>=fun v0=>
 if x5<v0 then
 ix x2.fL x5>>=fun v1=>
 ix x3.fL x5>>=fun v2=>
 if !(v1.fName==v2.fName&& (v1.fBy==v2.fBy&&true)) then
 some (.inr false)
 else
 Ub x2 x3 (wr (x5+(1:Int)))
 else
 some (.inl ())
 partial_fixpoint
theorem SE(x2:gLin)(x3:gLin)(x5:Int)(o:Unit ⊕ Bool)(h:Ub x2 x3 x5=some o):LO 152 4 38 [2,3,5] [.ptr 0 0 0,.ptr 1 0 0,ii x5] [.cells 0 (Qh x2).cells,.cells 0 (Qh x3).cells] [4] (Ua (x2,x3) () o):=
 Ub.partial_correctness x2 x3 (fun x5 o=>LO 152 4 38 [2,3,5] [.ptr 0 0 0,.ptr 1 0 0,ii x5] [.cells 0 (Qh x2).cells,.cells 0 (Qh x3).cells] [4] (Ua (x2,x3) () o))
 (fun Ub Q2n x5 o h=>
 Lp2 (hs:=[(23,.n eI 23 none),(24,.split),(30,.e Qp),(35,.e Qp),(37,.split)]) (kb:=[kk 2,kk 3]) (kbx:=[]) ((kN _ (mLen (sh:=Qp) x2.fL) fun v0=>(kIfD (p:=x5<v0) (kIx (enc:=Qp) (l:=x2.fL) (k:=x5) fun v1=>(kIx (enc:=Qp) (l:=x3.fL) (k:=x5) fun v2=>(kIf (c:= !(v1.fName==v2.fName&& (v1.fBy==v2.fBy&&true))) (kX (alts:=Ua (x2,x3) ()) (.inr false) (.next (.here _ rfl (.refl _) (.refl _))))
 (kM0 (alts:=Ua (x2,x3) ()) (Q2n (wr (x5+(1:Int))))))))
 (kX (alts:=Ua (x2,x3) ()) (.inl ()) (.here _ rfl (.refl _) (.refl _))))) h)) x5 o h
def U4(s:(gLin×gLin))(u:Unit)(o:Bool):List Alt:=jb o (fun b=>[.ptr 0 0 0,.ptr 1 0 0,.bool b]) [.cells 0 (Qh (s.1)).cells,.cells 0 (Qh (s.2)).cells]
def Df(x0:gLin)(x1:gLin):Option Bool:=
 some ()>>=fun v0=>
 (if x0.fK !=x1.fK then
 some true
 else
 some (List.length x0.fL:Int)>>=fun v2=>
 some (List.length x1.fL:Int)>>=fun v3=>
 if v2 !=v3 then
 some true
 else
 some false)>>=fun v1=>if v1 then
 some false
 else
 some ()>>=fun v6=>
 Ub x0 x1 (0:Int)>>=fun v7=>(match v7 with
 | (.inl v8)=>
 some true
 | (.inr v9)=>
 some v9)
theorem Lq(x0:gLin)(x1:gLin)(r:Bool)(h:Df x0 x1=some r):PU 152 [Qh x0,Qh x1] (eB r):=
 Pu2 (hs:=[(10,.split),(14,.n eI 14 none),(17,.n eI 17 none),(18,.split),(3000005,.l [] [2,3,5] [kk 2,kk 3] [4] [] (Ua (x0,x1))),(5000001,.l [] [] [] [2,3,19] [kk 2,kk 3] (U4 (x0,x1)))]) ((kJb (id:=5000001) () (fun v0 a5 v1=>(kIf (c:=x0.fK !=x1.fK) (kXj (alts:=U4 (x0,x1)) a5 true (.here () rfl (.refl _) (.refl _)))
 (kN _ (mLen (sh:=Qp) x0.fL) fun v2=>(kN _ (mLen (sh:=Qp) x1.fL) fun v3=>(kIf (c:=v2 !=v3) (kXj (alts:=U4 (x0,x1)) a5 true (.here () rfl (.refl _) (.refl _)))
 (kXj (alts:=U4 (x0,x1)) a5 false (.next (.here () rfl (.refl _) (.refl _)))))))))
 (fun v0=>(kEr (enc:=eB) false))
 (fun v0=>(kL2 () (hL:=(SE x0 x1 (0:Int))) (hA:=fun v6 v8=>(kEr (enc:=eB) true))
 (hB:=fun v6 v9=>(kEr (enc:=eB) v9))))) h)
def JK(s:((List gLin)× (List gLin)))(u:Unit)(o:Unit ⊕ Bool):List Alt:=[⟨fun(x:Unit)=>(Sum.inl x:Unit ⊕ Bool)=o,.exit 0,fun x=>[.undef],fun x=>[]⟩,⟨fun(x:Bool)=>(Sum.inr x:Unit ⊕ Bool)=o,.ret,fun x=>[.bool x],fun x=>[]⟩]
def UW(x0:List gLin)(x1:List gLin)(x5:Int):Option (Unit ⊕ Bool):=
 some (List.length x0:Int)>>=fun v0=>
 if x5<v0 then
 ix x0 x5>>=fun v1=>
 ix x1 x5>>=fun v2=>
 Df v1 v2>>=fun v3=>if v3 then
 UW x0 x1 (wr (x5+(1:Int)))
 else
 some (.inr false)
 else
 some (.inl ())
 partial_fixpoint
theorem Tf(x0:List gLin)(x1:List gLin)(x5:Int)(o:Unit ⊕ Bool)(h:UW x0 x1 x5=some o):LO 224 4 27 [0,1,5] [.sl 2 (List.map Qh x0),.sl 2 (List.map Qh x1),ii x5] [] [4] (JK (x0,x1) () o):=
 UW.partial_correctness x0 x1 (fun x5 o=>LO 224 4 27 [0,1,5] [.sl 2 (List.map Qh x0),.sl 2 (List.map Qh x1),ii x5] [] [4] (JK (x0,x1) () o))
 (fun UW Q2o x5 o h=>
 Lp2 (hs:=[(13,.n eI 13 none),(14,.split),(19,.e Qh),(23,.e Qh),(25,.cb)]) (kb:=[]) (kbx:=[]) ((kN _ (mLen (sh:=Qh) x0) fun v0=>(kIfD (p:=x5<v0) (kIx (enc:=Qh) (l:=x0) (k:=x5) fun v1=>(kIx (enc:=Qh) (l:=x1) (k:=x5) fun v2=>(kCb (Lq v1 v2) (kM0 (alts:=JK (x0,x1) ()) (Q2o (wr (x5+(1:Int)))))
 (kX (alts:=JK (x0,x1) ()) (.inr false) (.next (.here _ rfl (.refl _) (.refl _)))))))
 (kX (alts:=JK (x0,x1) ()) (.inl ()) (.here _ rfl (.refl _) (.refl _))))) h)) x5 o h
def E8(x0:List gLin)(x1:List gLin):Option Bool:=
 some (List.length x0:Int)>>=fun v0=>
 some (List.length x1:Int)>>=fun v1=>
 if v0 !=v1 then
 some false
 else
 some ()>>=fun v2=>
 UW x0 x1 (0:Int)>>=fun v3=>(match v3 with
 | (.inl v4)=>
 some true
 | (.inr v5)=>
 some v5)
theorem Pp(x0:List gLin)(x1:List gLin)(r:Bool)(h:E8 x0 x1=some r):PU 224 [G4 x0,G4 x1] (eB r):=
 Pu2 (hs:=[(7,.n eI 7 none),(9,.n eI 9 none),(10,.split),(3000005,.l [] [0,1,5] [] [4] [] (JK (x0,x1)))]) ((kN _ (mLen (sh:=Qh) x0) fun v0=>(kN _ (mLen (sh:=Qh) x1) fun v1=>(kIf (c:=v0 !=v1) (kEr (enc:=eB) false)
 (kL2 () (hL:=(Tf x0 x1 (0:Int))) (hA:=fun v2 v4=>(kEr (enc:=eB) true))
 (hB:=fun v2 v5=>(kEr (enc:=eB) v5)))))) h)
def Ir(x0:Qf)(x1:Qf):Option Bool:=
 if x0.fFrom==x1.fFrom then
 Df x0.fLin x1.fLin>>=fun v0=>if v0 then
 E8 x0.fAt x1.fAt>>=fun v1=>
 some v1
 else
 some false
 else
 some false
theorem As(x0:Qf)(x1:Qf)(r:Bool)(h:Ir x0 x1=some r):PU 185 [Q4 x0,Q4 x1] (eB r):=
 Pu2 (hs:=[(9,.split),(15,.cb),(22,.c eB)]) ((kIf (c:=x0.fFrom==x1.fFrom) (kCb (Lq x0.fLin x1.fLin) (kC (sh:=eB) (Pp x0.fAt x1.fAt) fun v1=>(kEr (enc:=eB) v1))
 (kEr (enc:=eB) false))
 (kEr (enc:=eB) false)) h)
def KR(s:((List Qf)× (List Qf)))(u:Unit)(o:Unit ⊕ Bool):List Alt:=[⟨fun(x:Unit)=>(Sum.inl x:Unit ⊕ Bool)=o,.exit 0,fun x=>[.undef],fun x=>[]⟩,⟨fun(x:Bool)=>(Sum.inr x:Unit ⊕ Bool)=o,.ret,fun x=>[.bool x],fun x=>[]⟩]
def KX(x0:List Qf)(x1:List Qf)(x5:Int):Option (Unit ⊕ Bool):=
 some (List.length x0:Int)>>=fun v0=>
 if x5<v0 then
 ix x0 x5>>=fun v1=>
 ix x1 x5>>=fun v2=>
 Ir v1 v2>>=fun v3=>if v3 then
 KX x0 x1 (wr (x5+(1:Int)))
 else
 some (.inr false)
 else
 some (.inl ())
 partial_fixpoint
theorem HQ(x0:List Qf)(x1:List Qf)(x5:Int)(o:Unit ⊕ Bool)(h:KX x0 x1 x5=some o):LO 153 4 27 [0,1,5] [.sl 4 (List.map Q4 x0),.sl 4 (List.map Q4 x1),ii x5] [] [4] (KR (x0,x1) () o):=
 KX.partial_correctness x0 x1 (fun x5 o=>LO 153 4 27 [0,1,5] [.sl 4 (List.map Q4 x0),.sl 4 (List.map Q4 x1),ii x5] [] [4] (KR (x0,x1) () o))
 (fun KX Q2l x5 o h=>
 Lp2 (hs:=[(13,.n eI 13 none),(14,.split),(19,.e Q4),(23,.e Q4),(25,.cb)]) (kb:=[]) (kbx:=[]) ((kN _ (mLen (sh:=Q4) x0) fun v0=>(kIfD (p:=x5<v0) (kIx (enc:=Q4) (l:=x0) (k:=x5) fun v1=>(kIx (enc:=Q4) (l:=x1) (k:=x5) fun v2=>(kCb (As v1 v2) (kM0 (alts:=KR (x0,x1) ()) (Q2l (wr (x5+(1:Int)))))
 (kX (alts:=KR (x0,x1) ()) (.inr false) (.next (.here _ rfl (.refl _) (.refl _)))))))
 (kX (alts:=KR (x0,x1) ()) (.inl ()) (.here _ rfl (.refl _) (.refl _))))) h)) x5 o h
def De(x0:List Qf)(x1:List Qf):Option Bool:=
 some (List.length x0:Int)>>=fun v0=>
 some (List.length x1:Int)>>=fun v1=>
 if v0 !=v1 then
 some false
 else
 some ()>>=fun v2=>
 KX x0 x1 (0:Int)>>=fun v3=>(match v3 with
 | (.inl v4)=>
 some true
 | (.inr v5)=>
 some v5)
theorem Te(x0:List Qf)(x1:List Qf)(r:Bool)(h:De x0 x1=some r):PU 153 [Kn x0,Kn x1] (eB r):=
 Pu2 (hs:=[(7,.n eI 7 none),(9,.n eI 9 none),(10,.split),(3000005,.l [] [0,1,5] [] [4] [] (KR (x0,x1)))]) ((kN _ (mLen (sh:=Q4) x0) fun v0=>(kN _ (mLen (sh:=Q4) x1) fun v1=>(kIf (c:=v0 !=v1) (kEr (enc:=eB) false)
 (kL2 () (hL:=(HQ x0 x1 (0:Int))) (hA:=fun v2 v4=>(kEr (enc:=eB) true))
 (hB:=fun v2 v5=>(kEr (enc:=eB) v5)))))) h)
def VV(s:((List Q6)× (List Q6)))(u:Unit)(o:Unit ⊕ Bool):List Alt:=[⟨fun(x:Unit)=>(Sum.inl x:Unit ⊕ Bool)=o,.exit 0,fun x=>[.undef],fun x=>[]⟩,⟨fun(x:Bool)=>(Sum.inr x:Unit ⊕ Bool)=o,.ret,fun x=>[.bool x],fun x=>[]⟩]
mutual
def JD(x0:Q0)(x1:Q0):Option Bool:=
 if x0.fOp==x1.fOp then
 if x0.fName==x1.fName then
 if x0.fVal.fN==x1.fVal.fN&& (x0.fVal.fD==x1.fVal.fD&&true) then
 if x0.fType.fKind==x1.fType.fKind&& (x0.fType.fBits==x1.fType.fBits&& (x0.fType.fFrac==x1.fType.fFrac&& (x0.fType.fRound==x1.fType.fRound&& (x0.fType.fOver==x1.fType.fOver&&true)))) then
 Df x0.fLin x1.fLin>>=fun v0=>if v0 then
 De x0.fIdx x1.fIdx>>=fun v1=>if v1 then
 GM x0.fArgs x1.fArgs>>=fun v2=>
 some v2
 else
 some false
 else
 some false
 else
 some false
 else
 some false
 else
 some false
 else
 some false
 partial_fixpoint
def GM(x0:List Q6)(x1:List Q6):Option Bool:=
 some (List.length x0:Int)>>=fun v0=>
 some (List.length x1:Int)>>=fun v1=>
 if v0 !=v1 then
 some false
 else
 some ()>>=fun v2=>
 Je x0 x1 (0:Int)>>=fun v3=>(match v3 with
 | (.inl v4)=>
 some true
 | (.inr v5)=>
 some v5)
 partial_fixpoint
def Je(x0:List Q6)(x1:List Q6)(x5:Int):Option (Unit ⊕ Bool):=
 some (List.length x0:Int)>>=fun v0=>
 if x5<v0 then
 Option.map Q6.f (ix x0 x5)>>=fun v1=>
 Option.map Q6.f (ix x1 x5)>>=fun v2=>
 JD v1 v2>>=fun v3=>if v3 then
 Je x0 x1 (wr (x5+(1:Int)))
 else
 some (.inr false)
 else
 some (.inl ())
 partial_fixpoint
end
theorem Ap:(∀(x0:Q0) (x1:Q0) (r:Bool),JD x0 x1=some r→PU 125 [Q2 x0,Q2 x1] (eB r))∧(∀(x0:List Q6) (x1:List Q6) (r:Bool),GM x0 x1=some r→PU 154 [Yw x0,Yw x1] (eB r))∧(∀(x0:List Q6) (x1:List Q6) (x5:Int) (o:Unit ⊕ Bool),Je x0 x1 x5=some o→LO 154 4 27 [0,1,5] [.sl 13 (List.map Qo x0),.sl 13 (List.map Qo x1),ii x5] [] [4] (VV (x0,x1) () o)):=
 JD.mutual_partial_correctness (fun x0 x1 r=>PU 125 [Q2 x0,Q2 x1] (eB r)) (fun x0 x1 r=>PU 154 [Yw x0,Yw x1] (eB r)) (fun x0 x1 x5 o=>LO 154 4 27 [0,1,5] [.sl 13 (List.map Qo x0),.sl 13 (List.map Qo x1),ii x5] [] [4] (VV (x0,x1) () o))
 (fun GM Q2i x0 x1 r h=>
 Pu2 (hs:=[(9,.split),(15,.split),(22,.split),(29,.split),(36,.cb),(43,.cb),(50,.c eB)]) ((kIf (c:=x0.fOp==x1.fOp) (kIf (c:=x0.fName==x1.fName) (kIf (c:=x0.fVal.fN==x1.fVal.fN&& (x0.fVal.fD==x1.fVal.fD&&true)) (kIf (c:=x0.fType.fKind==x1.fType.fKind&& (x0.fType.fBits==x1.fType.fBits&& (x0.fType.fFrac==x1.fType.fFrac&& (x0.fType.fRound==x1.fType.fRound&& (x0.fType.fOver==x1.fType.fOver&&true))))) (kCb (Lq x0.fLin x1.fLin) (kCb (Te x0.fIdx x1.fIdx) (kC (sh:=eB) (Q2i x0.fArgs x1.fArgs) fun v2=>(kEr (enc:=eB) v2))
 (kEr (enc:=eB) false))
 (kEr (enc:=eB) false))
 (kEr (enc:=eB) false))
 (kEr (enc:=eB) false))
 (kEr (enc:=eB) false))
 (kEr (enc:=eB) false)) h))
 (fun Je Q2j x0 x1 r h=>
 Pu2 (hs:=[(7,.n eI 7 none),(9,.n eI 9 none),(10,.split),(3000005,.l [] [0,1,5] [] [4] [] (VV (x0,x1)))]) ((kN _ (mLen (sh:=Qo) x0) fun v0=>(kN _ (mLen (sh:=Qo) x1) fun v1=>(kIf (c:=v0 !=v1) (kEr (enc:=eB) false)
 (kL2 () (hL:=(Q2j x0 x1 (0:Int))) (hA:=fun v2 v4=>(kEr (enc:=eB) true))
 (hB:=fun v2 v5=>(kEr (enc:=eB) v5)))))) h))
 (fun JD Je Q2h Q2j x0 x1 x5 o h=>
 Lp2 (hs:=[(13,.n eI 13 none),(14,.split),(19,.e Q2),(23,.e Q2),(25,.cb)]) (kb:=[]) (kbx:=[]) ((kN _ (mLen (sh:=Qo) x0) fun v0=>(kIfD (p:=x5<v0) (kIxR (l:=x0) (k:=x5) XD fun v1=>(kIxR (l:=x1) (k:=x5) XD fun v2=>(kCb (Q2h v1 v2) (kM0 (alts:=VV (x0,x1) ()) (Q2j x0 x1 (wr (x5+(1:Int)))))
 (kX (alts:=VV (x0,x1) ()) (.inr false) (.next (.here _ rfl (.refl _) (.refl _)))))))
 (kX (alts:=VV (x0,x1) ()) (.inl ()) (.here _ rfl (.refl _) (.refl _))))) h))
theorem Po(x0:Q0)(x1:Q0)(r:Bool)(h:JD x0 x1=some r):PU 125 [Q2 x0,Q2 x1] (eB r):=(Ap).1 x0 x1 r h
def UF(s:Qq)(u:(Bool×Bool))(o:Bool):List Alt:=[⟨fun(x:Bool)=>x=o,.normal,fun x=>[.ptr 0 0 0,.bool (u.1),.bool (u.2),.bool x],fun x=>[.cells 0 (Qv s).cells]⟩]
def K2(s:Qq)(u:(Bool×Bool×Bool))(o:Bool):List Alt:=jb o (fun b=>[.ptr 0 0 0,.bool (u.1),.bool (u.2.1),.bool (u.2.2),.bool b]) [.cells 0 (Qv s).cells]
def Qu(s:Qq)(u:(Bool×Bool))(o:Bool):List Alt:=jb o (fun b=>[.ptr 0 0 0,.bool (u.1),.bool (u.2),.bool b]) [.cells 0 (Qv s).cells]
def ZJ(s:Qq)(u:Bool)(o:Bool):List Alt:=jb o (fun b=>[.ptr 0 0 0,.bool u,.bool b]) [.cells 0 (Qv s).cells]
def Cf(x0:Qq):Option Bool:=
 some ((x0.fOp==(1:Int)),(x0.fOp==(4:Int)))>>=fun v0=>
 (if x0.fOp==(2:Int) then
 some true
 else
 some (x0.fOp==(3:Int)))>>=fun v2=>
 some (v0.fst,v0.snd,v2)>>=fun v3=>
 (if v0.fst then
 some false
 else
 if v0.snd then
 some false
 else
 if v2 then
 some false
 else
 some true)>>=fun v4=>if v4 then
 some false
 else
 some (v3.fst,v3.snd.snd)>>=fun v7=>
 (if v3.fst then
 if x0.fOp !=(3:Int) then
 if x0.fFold !=(0:Int) then
 some true
 else
 if v3.snd.fst then
 if !x0.fName==[] then
 some true
 else
 some false
 else
 some false
 else
 if v3.snd.fst then
 if !x0.fName==[] then
 some true
 else
 some false
 else
 some false
 else
 if x0.fMany !=(0:Int) then
 some true
 else
 if x0.fMark !=(0:Int) then
 some true
 else
 if x0.fOp !=(3:Int) then
 if x0.fFold !=(0:Int) then
 some true
 else
 if v3.snd.fst then
 if !x0.fName==[] then
 some true
 else
 some false
 else
 some false
 else
 if v3.snd.fst then
 if !x0.fName==[] then
 some true
 else
 some false
 else
 some false)>>=fun v8=>if v8 then
 some false
 else
 some v7.fst>>=fun a7=>
 (if v7.snd then
 if v7.snd then
 some (List.length x0.fBody:Int)>>=fun a9=>
 if(0:Int)<a9 then
 some true
 else
 some false
 else
 some false
 else
 some (List.length x0.fIdx:Int)>>=fun aa=>
 if(0:Int)<aa then
 some true
 else
 if v7.snd then
 some (List.length x0.fBody:Int)>>=fun ab=>
 if(0:Int)<ab then
 some true
 else
 some false
 else
 some false)>>=fun a8=>if a8 then
 some false
 else
 if a7 then
 some ((Ka.mk (0:Int) [] (gVal.mk (0:Int) (0:Int)) (Q8.mk (0:Int) (0:Int) (0:Int) (0:Int) (0:Int)) (gLin.mk (0:Int) []) [] []:Q0))>>=fun ac=>
 JD x0.fExpr ac>>=fun ad=>
 some ad
 else
 some true
theorem SS(x0:Qq)(r:Bool)(h:Cf x0=some r):PU 103 [Qv x0] (eB r):=
 Pu2 (hs:=[(14,.split),(20,.split),(23,.split),(27,.split),(30,.split),(35,.split),(39,.split),(45,.split),(49,.split),(53,.split),(57,.split),(60,.split),(65,.n eI 65 none),(66,.split),(69,.split),(73,.n eI 73 none),(74,.split),(77,.split),(82,.n Q2 82 none),(83,.c eB),(5000002,.l [] [] [] [1,3,4,5] [kk 1] (UF x0)),(5000003,.l [] [] [] [1,3,4,5,29] [kk 1] (K2 x0)),(5000005,.l [] [] [] [1,3,5,59] [kk 1] (Qu x0)),(5000007,.l [] [] [] [1,3,76] [kk 1] (ZJ x0))]) ((kJ1 (id:=5000002) ((x0.fOp==(1:Int)),(x0.fOp==(4:Int))) (fun v0 aa v1=>(kIf (c:=x0.fOp==(2:Int)) (kXj (alts:=UF x0) aa true (.here _ rfl (.refl _) (.refl _)))
 (kXj (alts:=UF x0) aa (x0.fOp==(3:Int)) (.here _ rfl (.refl _) (.refl _)))))
 (fun v0 v2=>(kJb (id:=5000003) (v0.fst,v0.snd,v2) (fun v3 a6 v4=>(kIf (c:=v0.fst) (kXj (alts:=K2 x0) a6 false (.next (.here () rfl (.refl _) (.refl _))))
 (kIf (c:=v0.snd) (kXj (alts:=K2 x0) a6 false (.next (.here () rfl (.refl _) (.refl _))))
 (kIf (c:=v2) (kXj (alts:=K2 x0) a6 false (.next (.here () rfl (.refl _) (.refl _))))
 (kXj (alts:=K2 x0) a6 true (.here () rfl (.refl _) (.refl _)))))))
 (fun v3=>(kEr (enc:=eB) false))
 (fun v3=>(kJb (id:=5000005) (v3.fst,v3.snd.snd) (fun v7 a4 v8=>(kIf (c:=v3.fst) (kIf (c:=x0.fOp !=(3:Int)) (kIf (c:=x0.fFold !=(0:Int)) (kXj (alts:=Qu x0) a4 true (.here () rfl (.refl _) (.refl _)))
 (kIf (c:=v3.snd.fst) (kIf (c:= !x0.fName==[]) (kXj (alts:=Qu x0) a4 true (.here () rfl (.refl _) (.refl _)))
 (kXj (alts:=Qu x0) a4 false (.next (.here () rfl (.refl _) (.refl _)))))
 (kXj (alts:=Qu x0) a4 false (.next (.here () rfl (.refl _) (.refl _))))))
 (kIf (c:=v3.snd.fst) (kIf (c:= !x0.fName==[]) (kXj (alts:=Qu x0) a4 true (.here () rfl (.refl _) (.refl _)))
 (kXj (alts:=Qu x0) a4 false (.next (.here () rfl (.refl _) (.refl _)))))
 (kXj (alts:=Qu x0) a4 false (.next (.here () rfl (.refl _) (.refl _))))))
 (kIf (c:=x0.fMany !=(0:Int)) (kXj (alts:=Qu x0) a4 true (.here () rfl (.refl _) (.refl _)))
 (kIf (c:=x0.fMark !=(0:Int)) (kXj (alts:=Qu x0) a4 true (.here () rfl (.refl _) (.refl _)))
 (kIf (c:=x0.fOp !=(3:Int)) (kIf (c:=x0.fFold !=(0:Int)) (kXj (alts:=Qu x0) a4 true (.here () rfl (.refl _) (.refl _)))
 (kIf (c:=v3.snd.fst) (kIf (c:= !x0.fName==[]) (kXj (alts:=Qu x0) a4 true (.here () rfl (.refl _) (.refl _)))
 (kXj (alts:=Qu x0) a4 false (.next (.here () rfl (.refl _) (.refl _)))))
 (kXj (alts:=Qu x0) a4 false (.next (.here () rfl (.refl _) (.refl _))))))
 (kIf (c:=v3.snd.fst) (kIf (c:= !x0.fName==[]) (kXj (alts:=Qu x0) a4 true (.here () rfl (.refl _) (.refl _)))
 (kXj (alts:=Qu x0) a4 false (.next (.here () rfl (.refl _) (.refl _)))))
 (kXj (alts:=Qu x0) a4 false (.next (.here () rfl (.refl _) (.refl _))))))))))
 (fun v7=>(kEr (enc:=eB) false))
 (fun v7=>(kJb (id:=5000007) v7.fst (fun a8 a5 ai=>(kIf (c:=v7.snd) (kIf (c:=v7.snd) (kN _ (mLen (sh:=Qg) x0.fBody) fun ac=>(kIfD (p:=(0:Int)<ac) (kXj (alts:=ZJ x0) a5 true (.here () rfl (.refl _) (.refl _)))
 (kXj (alts:=ZJ x0) a5 false (.next (.here () rfl (.refl _) (.refl _))))))
 (kXj (alts:=ZJ x0) a5 false (.next (.here () rfl (.refl _) (.refl _)))))
 (kN _ (mLen (sh:=Q4) x0.fIdx) fun ad=>(kIfD (p:=(0:Int)<ad) (kXj (alts:=ZJ x0) a5 true (.here () rfl (.refl _) (.refl _)))
 (kIf (c:=v7.snd) (kN _ (mLen (sh:=Qg) x0.fBody) fun ae=>(kIfD (p:=(0:Int)<ae) (kXj (alts:=ZJ x0) a5 true (.here () rfl (.refl _) (.refl _)))
 (kXj (alts:=ZJ x0) a5 false (.next (.here () rfl (.refl _) (.refl _))))))
 (kXj (alts:=ZJ x0) a5 false (.next (.here () rfl (.refl _) (.refl _)))))))))
 (fun a8=>(kEr (enc:=eB) false))
 (fun a8=>(kIf (c:=a8) (kW (sh:=Q2) (Ka.mk (0:Int) [] (gVal.mk (0:Int) (0:Int)) (Q8.mk (0:Int) (0:Int) (0:Int) (0:Int) (0:Int)) (gLin.mk (0:Int) []) [] []:Q0) (LeV.agg (.cons (LeV.refl (ii (0:Int))) (.cons (LeV.refl (AV.str [])) (.cons (LeV.refl (ii (0:Int))) (.cons (LeV.refl (ii (0:Int))) (.cons (LeV.refl (ii (0:Int))) (.cons (LeV.refl (ii (0:Int))) (.cons (LeV.refl (ii (0:Int))) (.cons (LeV.refl (ii (0:Int))) (.cons (LeV.refl (ii (0:Int))) (.cons (LeV.refl (ii (0:Int))) (.cons (LeV.nil 2) (.cons (LeV.nil 4) (.cons (LeV.nil 13) .nil)))))))))))))) fun af=>(kC (sh:=eB) (Po x0.fExpr af) fun ag=>(kEr (enc:=eB) ag)))
 (kEr (enc:=eB) true)))))))))) h)
def KV(s:(Str×Qi))(u:Unit)(o:Qc ⊕ (Qc×Bool)):List Alt:=[⟨fun(x:Qc)=>(Sum.inl x:Qc ⊕ (Qc×Bool))=o,.exit 0,fun x=>[.ptr 0 0 0,.undef],fun x=>[.cells 0 (Q7 x).cells]⟩,⟨fun(x:(Qc×Bool))=>(Sum.inr x:Qc ⊕ (Qc×Bool))=o,.ret,fun x=>[.ptr 0 0 0,.bool x.2],fun x=>[.cells 0 (Q7 x.1).cells]⟩]
def Xq(x1:Str)(x2:Qi)(x4:Qc)(x6:Int):Option (Qc ⊕ (Qc×Bool)):=
 some (List.length x2.fBufs:Int)>>=fun v0=>
 if x6<v0 then
 ix x2.fBufs x6>>=fun v1=>
 if v1.fName==x1 then
 ix x2.fBufs x6>>=fun v2=>
 some (.inr (v2,true))
 else
 Xq x1 x2 x4 (wr (x6+(1:Int)))
 else
 some (.inl x4)
 partial_fixpoint
theorem E5(x1:Str)(x2:Qi)(x4:Qc)(x6:Int)(o:Qc ⊕ (Qc×Bool))(h:Xq x1 x2 x4 x6=some o):LO 104 2 28 [1,2,4,6] [.str x1,.ptr 0 0 0,.ptr 1 0 0,ii x6] [.cells 0 (Qw x2).cells,.cells 0 (Q7 x4).cells] [4,5] (KV (x1,x2) () o):=
 Xq.partial_correctness x1 x2 x4 (fun x6 o=>LO 104 2 28 [1,2,4,6] [.str x1,.ptr 0 0 0,.ptr 1 0 0,ii x6] [.cells 0 (Qw x2).cells,.cells 0 (Q7 x4).cells] [4,5] (KV (x1,x2) () o))
 (fun Xq Q40 x6 o h=>
 Lp2 (hs:=[(10,.n eI 10 none),(11,.split),(17,.e Q7),(21,.split),(25,.e Q7)]) (kb:=[kk 2,kk 4]) (kbx:=[kk 4]) ((kN _ (mLen (sh:=Q7) x2.fBufs) fun v0=>(kIfD (p:=x6<v0) (kIx (enc:=Q7) (l:=x2.fBufs) (k:=x6) fun v1=>(kIf (c:=v1.fName==x1) (kIx (enc:=Q7) (l:=x2.fBufs) (k:=x6) fun v2=>(kX (alts:=KV (x1,x2) ()) (.inr (v2,true)) (.next (.here _ rfl (.refl _) (.refl _)))))
 (kM0 (alts:=KV (x1,x2) ()) (Q40 (wr (x6+(1:Int)))))))
 (kX (alts:=KV (x1,x2) ()) (.inl x4) (.here _ rfl (.refl _) (.refl _))))) h)) x6 o h
def Ku(x0:Qi)(x1:Str):Option (Qc×Bool):=
 some ()>>=fun v0=>
 Xq x1 x0 (Qc.mk [] (Q8.mk (0:Int) (0:Int) (0:Int) (0:Int) (0:Int)) [] (0:Int)) (0:Int)>>=fun v1=>(match v1 with
 | (.inl v2)=>
 some ((Qc.mk [] (Q8.mk (0:Int) (0:Int) (0:Int) (0:Int) (0:Int)) [] (0:Int)))>>=fun v3=>
 some (v3,false)
 | (.inr v4)=>
 some (v4.fst,v4.snd))
theorem G0(x0:Qi)(x1:Str)(r:(Qc×Bool))(h:Ku x0 x1=some r):PU 104 [Qw x0,eS x1] (Qz r):=
 Pu2 (hs:=[(27,.n Q7 27 none),(3000003,.l [] [1,2,4,6] [kk 2,kk 4] [4,5] [kk 4] (KV (x1,x0)))]) ((kL2 () (hL:=(fun y hy=>Ys.le (.cons (LeV.refl (AV.str x1)) (.cons (LeV.refl (AV.ptr (0:Nat) (0:Nat) (0:Nat))) (.cons (LeV.refl (AV.ptr (1:Nat) (0:Nat) (0:Nat))) (.cons (LeV.refl (ii (0:Int))) .nil)))) (.cons (LeB.refl (Box.cells (0:Nat) [AV.sl (8:Nat) (List.map Q7 x0.fBufs),AV.sl (20:Nat) (List.map Qg x0.fBody)])) (.cons (LeB.cells (0:Nat) (.cons (LeV.refl (AV.str [])) (.cons (LeV.refl (ii (0:Int))) (.cons (LeV.refl (ii (0:Int))) (.cons (LeV.refl (ii (0:Int))) (.cons (LeV.refl (ii (0:Int))) (.cons (LeV.refl (ii (0:Int))) (.cons (LeV.nil 1) (.cons (LeV.refl (ii (0:Int))) .nil))))))))) .nil)) (E5 x1 x0 (Qc.mk [] (Q8.mk (0:Int) (0:Int) (0:Int) (0:Int) (0:Int)) [] (0:Int)) (0:Int) y hy))) (hA:=fun v0 v2=>(kW (sh:=Q7) (Qc.mk [] (Q8.mk (0:Int) (0:Int) (0:Int) (0:Int) (0:Int)) [] (0:Int)) (LeV.agg (.cons (LeV.refl (AV.str [])) (.cons (LeV.refl (ii (0:Int))) (.cons (LeV.refl (ii (0:Int))) (.cons (LeV.refl (ii (0:Int))) (.cons (LeV.refl (ii (0:Int))) (.cons (LeV.refl (ii (0:Int))) (.cons (LeV.nil 1) (.cons (LeV.refl (ii (0:Int))) .nil))))))))) fun v3=>(kEr (enc:=Qz) (v3,false))))
 (hB:=fun v0 v4=>(kEr (enc:=Qz) (v4.fst,v4.snd)))) h)
def JS(s:(Int×Q0))(u:Unit)(o:Int):List Alt:=[⟨fun(x:Int)=>x=o,.exit 0,fun x=>[ii x],fun x=>[]⟩]
def VA(s:(Int×Q0))(u:(Int×Int))(o:Bool):List Alt:=jb o (fun b=>[ii (s.1),.ptr 0 0 0,ii (u.1),ii (u.2),.bool b]) [.cells 0 (Q2 (s.2)).cells]
mutual
def V0(x0:Q0)(x1:Int):Option Int:=
 some ()>>=fun v0=>
 X7 x1 x0 (1:Int) (0:Int)>>=fun v2=>
 some v2
 partial_fixpoint
def X7(x1:Int)(x2:Q0)(x5:Int)(x6:Int):Option Int:=
 some (x5,x6)>>=fun v0=>
 (some (List.length x2.fArgs:Int)>>=fun v2=>
 if x6<v2 then
 if(1:Int)<x1 then
 some true
 else
 some false
 else
 some false)>>=fun v1=>if v1 then
 Option.map Q6.f (ix x2.fArgs v0.snd)>>=fun v4=>
 V0 v4 (wr (x1 - (1:Int)))>>=fun v5=>
 X7 x1 x2 (if true=true then max v0.fst (wr ((1:Int)+v5)) else min v0.fst (wr ((1:Int)+v5))) (wr (v0.snd+(1:Int)))
 else
 some v0.fst
 partial_fixpoint
end
theorem Tb:(∀(x0:Q0) (x1:Int) (r:Int),V0 x0 x1=some r→PU 186 [Q2 x0,eI x1] (eI r))∧(∀(x1:Int) (x2:Q0) (x5:Int) (x6:Int) (o:Int),X7 x1 x2 x5 x6=some o→LO 186 3 30 [1,2,5,6] [ii x1,.ptr 0 0 0,ii x5,ii x6] [.cells 0 (Q2 x2).cells] [5] (JS (x1,x2) () o)):=
 V0.mutual_partial_correctness (fun x0 x1 r=>PU 186 [Q2 x0,eI x1] (eI r)) (fun x1 x2 x5 x6 o=>LO 186 3 30 [1,2,5,6] [ii x1,.ptr 0 0 0,ii x5,ii x6] [.cells 0 (Q2 x2).cells] [5] (JS (x1,x2) () o))
 (fun X7 Q3p x0 x1 r h=>
 Pu2 (hs:=[(3000004,.l [] [1,2,5,6] [kk 2] [5] [] (JS (x1,x0)))]) ((kL1 () (Q3p x1 x0 (1:Int) (0:Int)) fun v0 v2=>(kEr (enc:=eI) v2)) h))
 (fun V0 X7 Q3o Q3p x1 x2 x5 x6 o h=>
 Lp2 (hs:=[(10,.n eI 10 none),(11,.split),(14,.split),(22,.e Q2),(26,.c eI),(5000003,.l [] [] [] [1,2,5,6,15] [kk 2] (VA (x1,x2)))]) (kb:=[kk 2]) (kbx:=[]) ((kJb (id:=5000003) (x5,x6) (fun v0 a6 v1=>(kN _ (mLen (sh:=Qo) x2.fArgs) fun v2=>(kIfD (p:=x6<v2) (kIfD (p:=(1:Int)<x1) (kXj (alts:=VA (x1,x2)) a6 true (.here () rfl (.refl _) (.refl _)))
 (kXj (alts:=VA (x1,x2)) a6 false (.next (.here () rfl (.refl _) (.refl _)))))
 (kXj (alts:=VA (x1,x2)) a6 false (.next (.here () rfl (.refl _) (.refl _)))))))
 (fun v0=>(kIxR (l:=x2.fArgs) (k:=v0.snd) XD fun v4=>(kC (sh:=eI) (Q3o v4 (wr (x1 - (1:Int)))) fun v5=>(kM0 (alts:=JS (x1,x2) ()) (Q3p x1 x2 (if true=true then max v0.fst (wr ((1:Int)+v5)) else min v0.fst (wr ((1:Int)+v5))) (wr (v0.snd+(1:Int))))))))
 (fun v0=>(kX (alts:=JS (x1,x2) ()) v0.fst (.here _ rfl (.refl _) (.refl _))))) h))
theorem SM(x0:Q0)(x1:Int)(r:Int)(h:V0 x0 x1=some r):PU 186 [Q2 x0,eI x1] (eI r):=(Tb).1 x0 x1 r h
def Nq(x0:Q0):Option Int:=
 V0 x0 (41:Int)>>=fun v0=>
 some v0
theorem SL(x0:Q0)(r:Int)(h:Nq x0=some r):PU 155 [Q2 x0] (eI r):=
 Pu2 (hs:=[(4,.c eI)]) ((kC (sh:=eI) (SM x0 (41:Int)) fun v0=>(kEr (enc:=eI) v0)) h)
def Um(s:(Int×Q0))(u:Unit)(o:Int):List Alt:=[⟨fun(x:Int)=>x=o,.exit 0,fun x=>[ii x],fun x=>[]⟩]
def J3(s:(Int×Q0))(u:(Int×Int))(o:Bool):List Alt:=jb o (fun b=>[ii (s.1),.ptr 0 0 0,ii (u.1),ii (u.2),.bool b]) [.cells 0 (Q2 (s.2)).cells]
mutual
def VS(x0:Q0)(x1:Int):Option Int:=
 some ((1:Int):Int)>>=fun v0=>
 some ()>>=fun v1=>
 Yl x1 x0 v0 (0:Int)>>=fun v3=>
 some v3
 partial_fixpoint
def Yl(x1:Int)(x2:Q0)(x5:Int)(x6:Int):Option Int:=
 some (x5,x6)>>=fun v0=>
 (some (List.length x2.fArgs:Int)>>=fun v2=>
 if x6<v2 then
 if x5≤x1 then
 some true
 else
 some false
 else
 some false)>>=fun v1=>if v1 then
 Option.map Q6.f (ix x2.fArgs v0.snd)>>=fun v4=>
 VS v4 (wr (x1 - v0.fst))>>=fun v5=>
 some (wr (v0.fst+v5):Int)>>=fun v6=>
 Yl x1 x2 v6 (wr (v0.snd+(1:Int)))
 else
 some v0.fst
 partial_fixpoint
end
theorem Sx:(∀(x0:Q0) (x1:Int) (r:Int),VS x0 x1=some r→PU 187 [Q2 x0,eI x1] (eI r))∧(∀(x1:Int) (x2:Q0) (x5:Int) (x6:Int) (o:Int),Yl x1 x2 x5 x6=some o→LO 187 3 31 [1,2,5,6] [ii x1,.ptr 0 0 0,ii x5,ii x6] [.cells 0 (Q2 x2).cells] [5] (Um (x1,x2) () o)):=
 VS.mutual_partial_correctness (fun x0 x1 r=>PU 187 [Q2 x0,eI x1] (eI r)) (fun x1 x2 x5 x6 o=>LO 187 3 31 [1,2,5,6] [ii x1,.ptr 0 0 0,ii x5,ii x6] [.cells 0 (Q2 x2).cells] [5] (Um (x1,x2) () o))
 (fun Yl Q3y x0 x1 r h=>
 Pu2 (hs:=[(5,.n eI 5 none),(3000004,.l [] [1,2,5,6] [kk 2] [5] [] (Um (x1,x0)))]) ((kN (1:Int) rfl fun v0=>(kL1 () (Q3y x1 x0 v0 (0:Int)) fun v1 v3=>(kEr (enc:=eI) v3))) h))
 (fun VS Yl Q3x Q3y x1 x2 x5 x6 o h=>
 Lp2 (hs:=[(10,.n eI 10 none),(11,.split),(15,.split),(23,.e Q2),(28,.c eI),(5,.n eI 5 none),(5000003,.l [] [] [] [1,2,5,6,16] [kk 2] (J3 (x1,x2)))]) (kb:=[kk 2]) (kbx:=[]) ((kJb (id:=5000003) (x5,x6) (fun v0 a6 v1=>(kN _ (mLen (sh:=Qo) x2.fArgs) fun v2=>(kIfD (p:=x6<v2) (kIfD (p:=x5≤x1) (kXj (alts:=J3 (x1,x2)) a6 true (.here () rfl (.refl _) (.refl _)))
 (kXj (alts:=J3 (x1,x2)) a6 false (.next (.here () rfl (.refl _) (.refl _)))))
 (kXj (alts:=J3 (x1,x2)) a6 false (.next (.here () rfl (.refl _) (.refl _)))))))
 (fun v0=>(kIxR (l:=x2.fArgs) (k:=v0.snd) XD fun v4=>(kC (sh:=eI) (Q3x v4 (wr (x1 - v0.fst))) fun v5=>(kN (wr (v0.fst+v5)) rfl fun v6=>(kM0 (alts:=Um (x1,x2) ()) (Q3y x1 x2 v6 (wr (v0.snd+(1:Int)))))))))
 (fun v0=>(kX (alts:=Um (x1,x2) ()) v0.fst (.here _ rfl (.refl _) (.refl _))))) h))
theorem AE(x0:Q0)(x1:Int)(r:Int)(h:VS x0 x1=some r):PU 187 [Q2 x0,eI x1] (eI r):=(Sx).1 x0 x1 r h
def CT(x0:Q0):Option Int:=
 VS x0 (2000:Int)>>=fun v0=>
 some (if false=true then max v0 (2001:Int) else min v0 (2001:Int))
theorem AB(x0:Q0)(r:Int)(h:CT x0=some r):PU 156 [Q2 x0] (eI r):=
 Pu2 (hs:=[(4,.c eI)]) ((kC (sh:=eI) (AE x0 (2000:Int)) fun v0=>(kEr (enc:=eI) (if false=true then max v0 (2001:Int) else min v0 (2001:Int)))) h)
def Vi(s:Q0)(u:Unit)(o:Unit ⊕ Bool):List Alt:=[⟨fun(x:Unit)=>(Sum.inl x:Unit ⊕ Bool)=o,.exit 0,fun x=>[.undef],fun x=>[]⟩,⟨fun(x:Bool)=>(Sum.inr x:Unit ⊕ Bool)=o,.ret,fun x=>[.bool x],fun x=>[]⟩]
def Zj(s:Q0)(u:Int)(o:Bool):List Alt:=jb o (fun b=>[.ptr 0 0 0,ii u,.bool b]) [.cells 0 (Q2 s).cells]
def XU(x1:Q0)(x3:Int):Option (Unit ⊕ Bool):=
 some (List.length x1.fIdx:Int)>>=fun v0=>
 if x3<v0 then
 ix x1.fIdx x3>>=fun v1=>
 some x3>>=fun v2=>
 (if v1.fFrom==[] then
 some (List.length v1.fAt:Int)>>=fun v4=>
 if(0:Int)<v4 then
 some true
 else
 if !v1.fFrom==[] then
 if v1.fLin.fK !=(0:Int) then
 some true
 else
 some (List.length v1.fLin.fL:Int)>>=fun v5=>
 if(0:Int)<v5 then
 some true
 else
 some false
 else
 some false
 else
 if !v1.fFrom==[] then
 if v1.fLin.fK !=(0:Int) then
 some true
 else
 some (List.length v1.fLin.fL:Int)>>=fun v6=>
 if(0:Int)<v6 then
 some true
 else
 some false
 else
 some false)>>=fun v3=>if v3 then
 some (.inr false)
 else
 XU x1 (wr (v2+(1:Int)))
 else
 some (.inl ())
 partial_fixpoint
theorem Ez(x1:Q0)(x3:Int)(o:Unit ⊕ Bool)(h:XU x1 x3=some o):LO 188 8 109 [1,3] [.ptr 0 0 0,ii x3] [.cells 0 (Q2 x1).cells] [2] (Vi x1 () o):=
 XU.partial_correctness x1 (fun x3 o=>LO 188 8 109 [1,3] [.ptr 0 0 0,ii x3] [.cells 0 (Q2 x1).cells] [2] (Vi x1 () o))
 (fun XU Q3v x3 o h=>
 Lp2 (hs:=[(73,.n eI 73 none),(74,.split),(80,.e Q4),(84,.split),(88,.n eI 88 none),(89,.split),(94,.split),(99,.split),(104,.n eI 104 none),(105,.split),(5000011,.l [] [] [] [1,3,108] [kk 1] (Zj x1))]) (kb:=[kk 1]) (kbx:=[]) ((kN _ (mLen (sh:=Q4) x1.fIdx) fun v0=>(kIfD (p:=x3<v0) (kIx (enc:=Q4) (l:=x1.fIdx) (k:=x3) fun v1=>(kJb (id:=5000011) x3 (fun v2 a4 v3=>(kIf (c:=v1.fFrom==[]) (kN _ (mLen (sh:=Qh) v1.fAt) fun v4=>(kIfD (p:=(0:Int)<v4) (kXj (alts:=Zj x1) a4 true (.here () rfl (.refl _) (.refl _)))
 (kIf (c:= !v1.fFrom==[]) (kIf (c:=v1.fLin.fK !=(0:Int)) (kXj (alts:=Zj x1) a4 true (.here () rfl (.refl _) (.refl _)))
 (kN _ (mLen (sh:=Qp) v1.fLin.fL) fun v5=>(kIfD (p:=(0:Int)<v5) (kXj (alts:=Zj x1) a4 true (.here () rfl (.refl _) (.refl _)))
 (kXj (alts:=Zj x1) a4 false (.next (.here () rfl (.refl _) (.refl _)))))))
 (kXj (alts:=Zj x1) a4 false (.next (.here () rfl (.refl _) (.refl _)))))))
 (kIf (c:= !v1.fFrom==[]) (kIf (c:=v1.fLin.fK !=(0:Int)) (kXj (alts:=Zj x1) a4 true (.here () rfl (.refl _) (.refl _)))
 (kN _ (mLen (sh:=Qp) v1.fLin.fL) fun v6=>(kIfD (p:=(0:Int)<v6) (kXj (alts:=Zj x1) a4 true (.here () rfl (.refl _) (.refl _)))
 (kXj (alts:=Zj x1) a4 false (.next (.here () rfl (.refl _) (.refl _)))))))
 (kXj (alts:=Zj x1) a4 false (.next (.here () rfl (.refl _) (.refl _)))))))
 (fun v2=>(kX (alts:=Vi x1 ()) (.inr false) (.next (.here _ rfl (.refl _) (.refl _)))))
 (fun v2=>(kM0 (alts:=Vi x1 ()) (Q3v (wr (v2+(1:Int))))))))
 (kX (alts:=Vi x1 ()) (.inl ()) (.here _ rfl (.refl _) (.refl _))))) h)) x3 o h
def VD(s:Q0)(u:Unit)(o:Bool):List Alt:=jb o (fun b=>[.ptr 0 0 0,.bool b]) [.cells 0 (Q2 s).cells]
def Zi(s:Q0)(u:Unit)(o:Bool):List Alt:=jb o (fun b=>[.ptr 0 0 0,.bool b]) [.cells 0 (Q2 s).cells]
def Z4(s:Q0)(u:Unit)(o:Bool):List Alt:=jb o (fun b=>[.ptr 0 0 0,.bool b]) [.cells 0 (Q2 s).cells]
def Cc(x0:Q0):Option Bool:=
 some ()>>=fun v0=>
 (if x0.fOp< (1:Int) then
 some true
 else
 if(18:Int)<x0.fOp then
 some true
 else
 some false)>>=fun v1=>if v1 then
 some false
 else
 some ()>>=fun v4=>
 (if x0.fOp !=(1:Int) then
 some ((gVal.mk (0:Int) (0:Int)))>>=fun v6=>
 if !(x0.fVal.fN==v6.fN&& (x0.fVal.fD==v6.fD&&true)) then
 some true
 else
 if x0.fOp !=(1:Int) then
 if x0.fOp !=(12:Int) then
 some ((Q8.mk (0:Int) (0:Int) (0:Int) (0:Int) (0:Int)))>>=fun v7=>
 if !(x0.fType.fKind==v7.fKind&& (x0.fType.fBits==v7.fBits&& (x0.fType.fFrac==v7.fFrac&& (x0.fType.fRound==v7.fRound&& (x0.fType.fOver==v7.fOver&&true))))) then
 some true
 else
 some false
 else
 some false
 else
 some false
 else
 if x0.fOp !=(1:Int) then
 if x0.fOp !=(12:Int) then
 some ((Q8.mk (0:Int) (0:Int) (0:Int) (0:Int) (0:Int)))>>=fun v8=>
 if !(x0.fType.fKind==v8.fKind&& (x0.fType.fBits==v8.fBits&& (x0.fType.fFrac==v8.fFrac&& (x0.fType.fRound==v8.fRound&& (x0.fType.fOver==v8.fOver&&true))))) then
 some true
 else
 some false
 else
 some false
 else
 some false)>>=fun v5=>if v5 then
 some false
 else
 some ()>>=fun ad=>
 (if x0.fOp !=(2:Int) then
 if x0.fLin.fK !=(0:Int) then
 some true
 else
 some (List.length x0.fLin.fL:Int)>>=fun a7=>
 if(0:Int)<a7 then
 some true
 else
 if x0.fOp !=(3:Int) then
 if !x0.fName==[] then
 some true
 else
 some (List.length x0.fIdx:Int)>>=fun a8=>
 if(0:Int)<a8 then
 some true
 else
 some false
 else
 some false
 else
 if x0.fOp !=(3:Int) then
 if !x0.fName==[] then
 some true
 else
 some (List.length x0.fIdx:Int)>>=fun a9=>
 if(0:Int)<a9 then
 some true
 else
 some false
 else
 some false)>>=fun a6=>if a6 then
 some false
 else
 some ()>>=fun ae=>
 XU x0 (0:Int)>>=fun aa=>(match aa with
 | (.inl v20)=>
 some true
 | (.inr v21)=>
 some v21)
theorem SO(x0:Q0)(r:Bool)(h:Cc x0=some r):PU 188 [Q2 x0] (eB r):=
 Pu2 (hs:=[(7,.split),(11,.split),(15,.split),(19,.n W8 19 none),(20,.split),(25,.split),(29,.split),(34,.n Qd 34 none),(35,.split),(40,.split),(45,.split),(50,.n eI 50 none),(51,.split),(57,.split),(61,.split),(65,.n eI 65 none),(66,.split),(3000009,.l [] [1,3] [kk 1] [2] [] (Vi x0)),(5000001,.l [] [] [] [1,12] [kk 1] (VD x0)),(5000003,.l [] [] [] [1,37] [kk 1] (Zi x0)),(5000005,.l [] [] [] [1,69] [kk 1] (Z4 x0))]) ((kJb (id:=5000001) () (fun v0 a6 v1=>(kIfD (p:=x0.fOp< (1:Int)) (kXj (alts:=VD x0) a6 true (.here () rfl (.refl _) (.refl _)))
 (kIfD (p:=(18:Int)<x0.fOp) (kXj (alts:=VD x0) a6 true (.here () rfl (.refl _) (.refl _)))
 (kXj (alts:=VD x0) a6 false (.next (.here () rfl (.refl _) (.refl _)))))))
 (fun v0=>(kEr (enc:=eB) false))
 (fun v0=>(kJb (id:=5000003) () (fun v4 a5 v5=>(kIf (c:=x0.fOp !=(1:Int)) (kW (sh:=W8) (gVal.mk (0:Int) (0:Int)) lr fun v6=>(kIf (c:= !(x0.fVal.fN==v6.fN&& (x0.fVal.fD==v6.fD&&true))) (kXj (alts:=Zi x0) a5 true (.here () rfl (.refl _) (.refl _)))
 (kIf (c:=x0.fOp !=(1:Int)) (kIf (c:=x0.fOp !=(12:Int)) (kW (sh:=Qd) (Q8.mk (0:Int) (0:Int) (0:Int) (0:Int) (0:Int)) lr fun v7=>(kIf (c:= !(x0.fType.fKind==v7.fKind&& (x0.fType.fBits==v7.fBits&& (x0.fType.fFrac==v7.fFrac&& (x0.fType.fRound==v7.fRound&& (x0.fType.fOver==v7.fOver&&true)))))) (kXj (alts:=Zi x0) a5 true (.here () rfl (.refl _) (.refl _)))
 (kXj (alts:=Zi x0) a5 false (.next (.here () rfl (.refl _) (.refl _))))))
 (kXj (alts:=Zi x0) a5 false (.next (.here () rfl (.refl _) (.refl _)))))
 (kXj (alts:=Zi x0) a5 false (.next (.here () rfl (.refl _) (.refl _)))))))
 (kIf (c:=x0.fOp !=(1:Int)) (kIf (c:=x0.fOp !=(12:Int)) (kW (sh:=Qd) (Q8.mk (0:Int) (0:Int) (0:Int) (0:Int) (0:Int)) lr fun v8=>(kIf (c:= !(x0.fType.fKind==v8.fKind&& (x0.fType.fBits==v8.fBits&& (x0.fType.fFrac==v8.fFrac&& (x0.fType.fRound==v8.fRound&& (x0.fType.fOver==v8.fOver&&true)))))) (kXj (alts:=Zi x0) a5 true (.here () rfl (.refl _) (.refl _)))
 (kXj (alts:=Zi x0) a5 false (.next (.here () rfl (.refl _) (.refl _))))))
 (kXj (alts:=Zi x0) a5 false (.next (.here () rfl (.refl _) (.refl _)))))
 (kXj (alts:=Zi x0) a5 false (.next (.here () rfl (.refl _) (.refl _)))))))
 (fun v4=>(kEr (enc:=eB) false))
 (fun v4=>(kJb (id:=5000005) () (fun a7 a4 ai=>(kIf (c:=x0.fOp !=(2:Int)) (kIf (c:=x0.fLin.fK !=(0:Int)) (kXj (alts:=Z4 x0) a4 true (.here () rfl (.refl _) (.refl _)))
 (kN _ (mLen (sh:=Qp) x0.fLin.fL) fun aa=>(kIfD (p:=(0:Int)<aa) (kXj (alts:=Z4 x0) a4 true (.here () rfl (.refl _) (.refl _)))
 (kIf (c:=x0.fOp !=(3:Int)) (kIf (c:= !x0.fName==[]) (kXj (alts:=Z4 x0) a4 true (.here () rfl (.refl _) (.refl _)))
 (kN _ (mLen (sh:=Q4) x0.fIdx) fun ab=>(kIfD (p:=(0:Int)<ab) (kXj (alts:=Z4 x0) a4 true (.here () rfl (.refl _) (.refl _)))
 (kXj (alts:=Z4 x0) a4 false (.next (.here () rfl (.refl _) (.refl _)))))))
 (kXj (alts:=Z4 x0) a4 false (.next (.here () rfl (.refl _) (.refl _))))))))
 (kIf (c:=x0.fOp !=(3:Int)) (kIf (c:= !x0.fName==[]) (kXj (alts:=Z4 x0) a4 true (.here () rfl (.refl _) (.refl _)))
 (kN _ (mLen (sh:=Q4) x0.fIdx) fun ac=>(kIfD (p:=(0:Int)<ac) (kXj (alts:=Z4 x0) a4 true (.here () rfl (.refl _) (.refl _)))
 (kXj (alts:=Z4 x0) a4 false (.next (.here () rfl (.refl _) (.refl _)))))))
 (kXj (alts:=Z4 x0) a4 false (.next (.here () rfl (.refl _) (.refl _)))))))
 (fun a7=>(kEr (enc:=eB) false))
 (fun a7=>(kL2 () (hL:=(Ez x0 (0:Int))) (hA:=fun ad aj=>(kEr (enc:=eB) true))
 (hB:=fun ad ae=>(kEr (enc:=eB) ae))))))))) h)
def Vg(s:Q0)(u:Unit)(o:Unit ⊕ Bool):List Alt:=[⟨fun(x:Unit)=>(Sum.inl x:Unit ⊕ Bool)=o,.exit 0,fun x=>[.undef],fun x=>[]⟩,⟨fun(x:Bool)=>(Sum.inr x:Unit ⊕ Bool)=o,.ret,fun x=>[.bool x],fun x=>[]⟩]
def VC(s:Q0)(u:Int)(o:Bool):List Alt:=jb o (fun b=>[.ptr 0 0 0,ii u,.bool b]) [.cells 0 (Q2 s).cells]
def XS(x1:Q0)(x3:Int):Option (Unit ⊕ Bool):=
 some (List.length x1.fIdx:Int)>>=fun v0=>
 if x3<v0 then
 some x3>>=fun v1=>
 (ix x1.fIdx x3>>=fun v3=>
 if !v3.fFrom==[] then
 ix x1.fIdx x3>>=fun v4=>
 JE v4.fFrom>>=fun v5=>if v5 then
 some false
 else
 some true
 else
 some false)>>=fun v2=>if v2 then
 some (.inr false)
 else
 XS x1 (wr (v1+(1:Int)))
 else
 some (.inl ())
 partial_fixpoint
theorem Ey(x1:Q0)(x3:Int)(o:Unit ⊕ Bool)(h:XS x1 x3=some o):LO 189 4 37 [1,3] [.ptr 0 0 0,ii x3] [.cells 0 (Q2 x1).cells] [2] (Vg x1 () o):=
 XS.partial_correctness x1 (fun x3 o=>LO 189 4 37 [1,3] [.ptr 0 0 0,ii x3] [.cells 0 (Q2 x1).cells] [2] (Vg x1 () o))
 (fun XS Q3s x3 o h=>
 Lp2 (hs:=[(16,.n eI 16 none),(17,.split),(23,.e Q4),(26,.split),(31,.e Q4),(34,.cb),(5000006,.l [] [] [] [1,3,36] [kk 1] (VC x1))]) (kb:=[kk 1]) (kbx:=[]) ((kN _ (mLen (sh:=Q4) x1.fIdx) fun v0=>(kIfD (p:=x3<v0) (kJb (id:=5000006) x3 (fun v1 a5 v2=>(kIx (enc:=Q4) (l:=x1.fIdx) (k:=x3) fun v3=>(kIf (c:= !v3.fFrom==[]) (kIx (enc:=Q4) (l:=x1.fIdx) (k:=x3) fun v4=>(kCb (DQ v4.fFrom) (kXj (alts:=VC x1) a5 false (.next (.here () rfl (.refl _) (.refl _))))
 (kXj (alts:=VC x1) a5 true (.here () rfl (.refl _) (.refl _)))))
 (kXj (alts:=VC x1) a5 false (.next (.here () rfl (.refl _) (.refl _)))))))
 (fun v1=>(kX (alts:=Vg x1 ()) (.inr false) (.next (.here _ rfl (.refl _) (.refl _)))))
 (fun v1=>(kM0 (alts:=Vg x1 ()) (Q3s (wr (v1+(1:Int)))))))
 (kX (alts:=Vg x1 ()) (.inl ()) (.here _ rfl (.refl _) (.refl _))))) h)) x3 o h
def VB(s:Q0)(u:Unit)(o:Bool):List Alt:=jb o (fun b=>[.ptr 0 0 0,.bool b]) [.cells 0 (Q2 s).cells]
def Cb(x0:Q0):Option Bool:=
 some ()>>=fun v0=>
 (if x0.fOp==(3:Int) then
 JE x0.fName>>=fun v2=>if v2 then
 some false
 else
 some true
 else
 some false)>>=fun v1=>if v1 then
 some false
 else
 some ()>>=fun v5=>
 XS x0 (0:Int)>>=fun v6=>(match v6 with
 | (.inl v7)=>
 some true
 | (.inr v8)=>
 some v8)
theorem SN(x0:Q0)(r:Bool)(h:Cb x0=some r):PU 189 [Q2 x0] (eB r):=
 Pu2 (hs:=[(6,.split),(10,.cb),(3000005,.l [] [1,3] [kk 1] [2] [] (Vg x0)),(5000001,.l [] [] [] [1,12] [kk 1] (VB x0))]) ((kJb (id:=5000001) () (fun v0 a4 v1=>(kIf (c:=x0.fOp==(3:Int)) (kCb (DQ x0.fName) (kXj (alts:=VB x0) a4 false (.next (.here () rfl (.refl _) (.refl _))))
 (kXj (alts:=VB x0) a4 true (.here () rfl (.refl _) (.refl _))))
 (kXj (alts:=VB x0) a4 false (.next (.here () rfl (.refl _) (.refl _))))))
 (fun v0=>(kEr (enc:=eB) false))
 (fun v0=>(kL2 () (hL:=(Ey x0 (0:Int))) (hA:=fun v5 v7=>(kEr (enc:=eB) true))
 (hB:=fun v5 v8=>(kEr (enc:=eB) v8))))) h)
def Kr(s:Unit)(u:Int)(o:Bool):List Alt:=jb o (fun b=>[ii u,.bool b]) []
def Ks(s:Unit)(u:Int)(o:Bool):List Alt:=jb o (fun b=>[ii u,.bool b]) []
def CU(x0:Int):Option Int:=
 some x0>>=fun v0=>
 (if x0==(1:Int) then
 some true
 else
 if x0==(2:Int) then
 some true
 else
 if x0==(3:Int) then
 some true
 else
 some false)>>=fun v1=>if v1 then
 some (0:Int)
 else
 some v0>>=fun v4=>
 (if v0==(8:Int) then
 some true
 else
 if v0==(12:Int) then
 some true
 else
 if v0==(18:Int) then
 some true
 else
 some false)>>=fun v5=>if v5 then
 some (1:Int)
 else
 if v4==(11:Int) then
 some (3:Int)
 else
 some (2:Int)
theorem AC(x0:Int)(r:Int)(h:CU x0=some r):PU 225 [eI x0] (eI r):=
 Pu2 (hs:=[(4,.split),(4,.split),(4,.split),(8,.split),(8,.split),(8,.split),(13,.split),(6000004,.l [] [] [] [3,4] [] (Kr ())),(6000008,.l [] [] [] [3,8] [] (Ks ()))]) ((kJb (id:=6000004) x0 (fun v0 a3 v1=>(kIf (c:=x0==(1:Int)) (kXj (alts:=Kr ()) a3 true (.here () rfl (.refl _) (.refl _)))
 (kIf (c:=x0==(2:Int)) (kXj (alts:=Kr ()) a3 true (.here () rfl (.refl _) (.refl _)))
 (kIf (c:=x0==(3:Int)) (kXj (alts:=Kr ()) a3 true (.here () rfl (.refl _) (.refl _)))
 (kXj (alts:=Kr ()) a3 false (.next (.here () rfl (.refl _) (.refl _))))))))
 (fun v0=>(kEr (enc:=eI) (0:Int)))
 (fun v0=>(kJb (id:=6000008) v0 (fun v4 a4 v5=>(kIf (c:=v0==(8:Int)) (kXj (alts:=Ks ()) a4 true (.here () rfl (.refl _) (.refl _)))
 (kIf (c:=v0==(12:Int)) (kXj (alts:=Ks ()) a4 true (.here () rfl (.refl _) (.refl _)))
 (kIf (c:=v0==(18:Int)) (kXj (alts:=Ks ()) a4 true (.here () rfl (.refl _) (.refl _)))
 (kXj (alts:=Ks ()) a4 false (.next (.here () rfl (.refl _) (.refl _))))))))
 (fun v4=>(kEr (enc:=eI) (1:Int)))
 (fun v4=>(kIf (c:=v4==(11:Int)) (kEr (enc:=eI) (3:Int))
 (kEr (enc:=eI) (2:Int))))))) h)
def KU(s:Q0)(u:Unit)(o:Unit ⊕ Bool):List Alt:=[⟨fun(x:Unit)=>(Sum.inl x:Unit ⊕ Bool)=o,.exit 0,fun x=>[.undef],fun x=>[]⟩,⟨fun(x:Bool)=>(Sum.inr x:Unit ⊕ Bool)=o,.ret,fun x=>[.bool x],fun x=>[]⟩]
def Xp(x1:Q0)(x3:Int):Option (Unit ⊕ Bool):=
 some (List.length x1.fIdx:Int)>>=fun v0=>
 if x3<v0 then
 ix x1.fIdx x3>>=fun v1=>
 some (List.length v1.fAt:Int)>>=fun v2=>
 if(6:Int)<v2 then
 some (.inr false)
 else
 Xp x1 (wr (x3+(1:Int)))
 else
 some (.inl ())
 partial_fixpoint
theorem E4(x1:Q0)(x3:Int)(o:Unit ⊕ Bool)(h:Xp x1 x3=some o):LO 190 4 32 [1,3] [.ptr 0 0 0,ii x3] [.cells 0 (Q2 x1).cells] [2] (KU x1 () o):=
 Xp.partial_correctness x1 (fun x3 o=>LO 190 4 32 [1,3] [.ptr 0 0 0,ii x3] [.cells 0 (Q2 x1).cells] [2] (KU x1 () o))
 (fun Xp Q3w x3 o h=>
 Lp2 (hs:=[(20,.n eI 20 none),(21,.split),(27,.e Q4),(30,.n eI 30 none),(31,.split)]) (kb:=[kk 1]) (kbx:=[]) ((kN _ (mLen (sh:=Q4) x1.fIdx) fun v0=>(kIfD (p:=x3<v0) (kIx (enc:=Q4) (l:=x1.fIdx) (k:=x3) fun v1=>(kN _ (mLen (sh:=Qh) v1.fAt) fun v2=>(kIfD (p:=(6:Int)<v2) (kX (alts:=KU x1 ()) (.inr false) (.next (.here _ rfl (.refl _) (.refl _))))
 (kM0 (alts:=KU x1 ()) (Q3w (wr (x3+(1:Int))))))))
 (kX (alts:=KU x1 ()) (.inl ()) (.here _ rfl (.refl _) (.refl _))))) h)) x3 o h
def V3(s:Q0)(u:Unit)(o:Bool):List Alt:=jb o (fun b=>[.ptr 0 0 0,.bool b]) [.cells 0 (Q2 s).cells]
def Dk(x0:Q0):Option Bool:=
 some ()>>=fun v0=>
 (CU x0.fOp>>=fun v2=>
 some (List.length x0.fArgs:Int)>>=fun v3=>
 if v3 !=v2 then
 some true
 else
 some (List.length x0.fIdx:Int)>>=fun v4=>
 if(6:Int)<v4 then
 some true
 else
 some false)>>=fun v1=>if v1 then
 some false
 else
 some ()>>=fun v7=>
 Xp x0 (0:Int)>>=fun v8=>(match v8 with
 | (.inl v9)=>
 some true
 | (.inr v10)=>
 some v10)
theorem To(x0:Q0)(r:Bool)(h:Dk x0=some r):PU 190 [Q2 x0] (eB r):=
 Pu2 (hs:=[(6,.n eI 6 none),(9,.c eI),(10,.split),(14,.n eI 14 none),(15,.split),(3000005,.l [] [1,3] [kk 1] [2] [] (KU x0)),(5000001,.l [] [] [] [1,16] [kk 1] (V3 x0))]) ((kJb (id:=5000001) () (fun v0 a4 v1=>(kC (sh:=eI) (AC x0.fOp) fun v2=>(kN _ (mLen (sh:=Qo) x0.fArgs) fun v3=>(kIf (c:=v3 !=v2) (kXj (alts:=V3 x0) a4 true (.here () rfl (.refl _) (.refl _)))
 (kN _ (mLen (sh:=Q4) x0.fIdx) fun v4=>(kIfD (p:=(6:Int)<v4) (kXj (alts:=V3 x0) a4 true (.here () rfl (.refl _) (.refl _)))
 (kXj (alts:=V3 x0) a4 false (.next (.here () rfl (.refl _) (.refl _))))))))))
 (fun v0=>(kEr (enc:=eB) false))
 (fun v0=>(kL2 () (hL:=(E4 x0 (0:Int))) (hA:=fun v7 v9=>(kEr (enc:=eB) true))
 (hB:=fun v7 a5=>(kEr (enc:=eB) a5))))) h)
def Xi(x0:Q0):Option Bool:=
 if(13:Int)≤x0.fOp then
 some (decide (x0.fOp≤(18:Int)))
 else
 some false
theorem Vc(x0:Q0)(r:Bool)(h:Xi x0=some r):PU 106 [Q2 x0] (eB r):=
 Pu2 (hs:=[(5,.split)]) ((kIfD (p:=(13:Int)≤x0.fOp) (kEr (enc:=eB) (decide (x0.fOp≤(18:Int))))
 (kEr (enc:=eB) false)) h)
def Ce(x0:Int)(x1:Int):Option Bool:=
 if x0==(11:Int) then
 if x1==(0:Int) then
 some true
 else
 if x0==(16:Int) then
 some true
 else
 if x0==(17:Int) then
 some true
 else
 some (x0==(18:Int))
 else
 if x0==(16:Int) then
 some true
 else
 if x0==(17:Int) then
 some true
 else
 some (x0==(18:Int))
theorem SQ(x0:Int)(x1:Int)(r:Bool)(h:Ce x0 x1=some r):PU 226 [eI x0,eI x1] (eB r):=
 Pu2 (hs:=[(6,.split),(9,.split),(13,.split),(17,.split)]) ((kIf (c:=x0==(11:Int)) (kIf (c:=x1==(0:Int)) (kEr (enc:=eB) true)
 (kIf (c:=x0==(16:Int)) (kEr (enc:=eB) true)
 (kIf (c:=x0==(17:Int)) (kEr (enc:=eB) true)
 (kEr (enc:=eB) (x0==(18:Int))))))
 (kIf (c:=x0==(16:Int)) (kEr (enc:=eB) true)
 (kIf (c:=x0==(17:Int)) (kEr (enc:=eB) true)
 (kEr (enc:=eB) (x0==(18:Int)))))) h)
def Vj(s:Q0)(u:Unit)(o:Unit ⊕ Bool):List Alt:=[⟨fun(x:Unit)=>(Sum.inl x:Unit ⊕ Bool)=o,.exit 0,fun x=>[.undef],fun x=>[]⟩,⟨fun(x:Bool)=>(Sum.inr x:Unit ⊕ Bool)=o,.ret,fun x=>[.bool x],fun x=>[]⟩]
def XV(x1:Q0)(x3:Int):Option (Unit ⊕ Bool):=
 some (List.length x1.fArgs:Int)>>=fun v0=>
 if x3<v0 then
 Option.map Q6.f (ix x1.fArgs x3)>>=fun v1=>
 Xi v1>>=fun v2=>
 Ce x1.fOp x3>>=fun v3=>
 if !v2==v3 then
 some (.inr false)
 else
 XV x1 (wr (x3+(1:Int)))
 else
 some (.inl ())
 partial_fixpoint
theorem EA(x1:Q0)(x3:Int)(o:Unit ⊕ Bool)(h:XV x1 x3=some o):LO 191 4 36 [1,3] [.ptr 0 0 0,ii x3] [.cells 0 (Q2 x1).cells] [2] (Vj x1 () o):=
 XV.partial_correctness x1 (fun x3 o=>LO 191 4 36 [1,3] [.ptr 0 0 0,ii x3] [.cells 0 (Q2 x1).cells] [2] (Vj x1 () o))
 (fun XV Q3z x3 o h=>
 Lp2 (hs:=[(21,.n eI 21 none),(22,.split),(28,.e Q2),(30,.c eB),(34,.c eB),(35,.split)]) (kb:=[kk 1]) (kbx:=[]) ((kN _ (mLen (sh:=Qo) x1.fArgs) fun v0=>(kIfD (p:=x3<v0) (kIxR (l:=x1.fArgs) (k:=x3) XD fun v1=>(kC (sh:=eB) (Vc v1) fun v2=>(kC (sh:=eB) (SQ x1.fOp x3) fun v3=>(kIf (c:= !v2==v3) (kX (alts:=Vj x1 ()) (.inr false) (.next (.here _ rfl (.refl _) (.refl _))))
 (kM0 (alts:=Vj x1 ()) (Q3z (wr (x3+(1:Int)))))))))
 (kX (alts:=Vj x1 ()) (.inl ()) (.here _ rfl (.refl _) (.refl _))))) h)) x3 o h
def Y5(s:Q0)(u:Unit)(o:Bool):List Alt:=jb o (fun b=>[.ptr 0 0 0,.bool b]) [.cells 0 (Q2 s).cells]
def Cd(x0:Q0):Option Bool:=
 some ()>>=fun v0=>
 (if x0.fOp==(1:Int) then
 Gy x0.fType>>=fun v2=>if v2 then
 some false
 else
 some true
 else
 if x0.fOp==(12:Int) then
 Gy x0.fType>>=fun v3=>if v3 then
 some false
 else
 some true
 else
 some false)>>=fun v1=>if v1 then
 some false
 else
 some ()>>=fun v6=>
 XV x0 (0:Int)>>=fun v7=>(match v7 with
 | (.inl v8)=>
 some true
 | (.inr v9)=>
 some v9)
theorem SP(x0:Q0)(r:Bool)(h:Cd x0=some r):PU 191 [Q2 x0] (eB r):=
 Pu2 (hs:=[(6,.split),(10,.split),(15,.cb),(3000005,.l [] [1,3] [kk 1] [2] [] (Vj x0)),(5000001,.l [] [] [] [1,17] [kk 1] (Y5 x0))]) ((kJb (id:=5000001) () (fun v0 a4 v1=>(kIf (c:=x0.fOp==(1:Int)) (kCb (MM x0.fType) (kXj (alts:=Y5 x0) a4 false (.next (.here () rfl (.refl _) (.refl _))))
 (kXj (alts:=Y5 x0) a4 true (.here () rfl (.refl _) (.refl _))))
 (kIf (c:=x0.fOp==(12:Int)) (kCb (MM x0.fType) (kXj (alts:=Y5 x0) a4 false (.next (.here () rfl (.refl _) (.refl _))))
 (kXj (alts:=Y5 x0) a4 true (.here () rfl (.refl _) (.refl _))))
 (kXj (alts:=Y5 x0) a4 false (.next (.here () rfl (.refl _) (.refl _)))))))
 (fun v0=>(kEr (enc:=eB) false))
 (fun v0=>(kL2 () (hL:=(EA x0 (0:Int))) (hA:=fun v6 v8=>(kEr (enc:=eB) true))
 (hB:=fun v6 v9=>(kEr (enc:=eB) v9))))) h)
def Gn(s:Unit)(u:Unit)(o:Int):List Alt:=[⟨fun(x:Int)=>x=o,.exit 0,fun x=>[ii x],fun x=>[]⟩]
def Jl(x0:Int)(x1:Int):Option Int:=
 if x1 !=(0:Int) then
 if x1≠(0:Int) then
 some (x0.tmod x1:Int)>>=fun v0=>
 Jl x1 v0
 else none
 else
 some x0
 partial_fixpoint
theorem SF(x0:Int)(x1:Int)(o:Int)(h:Jl x0 x1=some o):LO 115 1 12 [0,1] [ii x0,ii x1] [] [0] (Gn () () o):=
 Jl.partial_correctness (fun x0 x1 o=>LO 115 1 12 [0,1] [ii x0,ii x1] [] [0] (Gn () () o))
 (fun Jl Q2w x0 x1 o h=>
 Lp2 (hs:=[(6,.split),(10,.s),(1,.n eI 1 none)]) (kb:=[]) (kbx:=[]) ((kIf (c:=x1 !=(0:Int)) (kG (p:=x1≠(0:Int)) (kN (x0.tmod x1) rfl fun v0=>(kM0 (alts:=Gn () ()) (Q2w x1 v0))))
 (kX (alts:=Gn () ()) x0 (.here _ rfl (.refl _) (.refl _)))) h)) x0 x1 o h
def Lo(x0:Int)(x1:Int):Option Int:=
 some ()>>=fun v0=>
 Jl x0 x1>>=fun v2=>
 some v2
theorem B0(x0:Int)(x1:Int)(r:Int)(h:Lo x0 x1=some r):PU 115 [eI x0,eI x1] (eI r):=
 Pu2 (hs:=[(3000002,.l [] [0,1] [] [0] [] (Gn ()))]) ((kL1 () (SF x0 x1) fun v0 v2=>(kEr (enc:=eI) v2)) h)
def YW(s:(Q8×gVal))(u:Unit)(o:Bool):List Alt:=jb o (fun b=>[.ptr 0 0 0,.ptr 1 0 0,.bool b]) [.cells 0 (Qd (s.1)).cells,.cells 0 (W8 (s.2)).cells]
def NC(x0:Q8)(x1:gVal):Option Bool:=
 if x0.fKind==(2:Int) then
 if(0:Int)≤wr (x0.fBits - (1:Int)) then
 some (wr ((1:Int)*(2:Int)^min (wr (x0.fBits - (1:Int))).toNat (64:Nat)):Int)>>=fun v0=>
 if x1.fD==(1:Int) then
 if wr ((0:Int) - v0)≤x1.fN then
 some (decide (x1.fN<v0))
 else
 some false
 else
 some false
 else none
 else
 some ()>>=fun v1=>
 (if(2147483647:Int)<x1.fN then
 some true
 else
 if x1.fN< (-2147483647:Int) then
 some true
 else
 if x1.fD< (1:Int) then
 some true
 else
 if(2147483647:Int)<x1.fD then
 some true
 else
 some false)>>=fun v2=>if v2 then
 some false
 else
 if x0.fKind==(3:Int) then
 some (x1.fD==(1:Int))
 else
 Lo (if true=true then max x1.fN (wr ((0:Int) - x1.fN)) else min x1.fN (wr ((0:Int) - x1.fN))) x1.fD>>=fun v5=>
 some (v5==(1:Int))
theorem OZ(x0:Q8)(x1:gVal)(r:Bool)(h:NC x0 x1=some r):PU 90 [Qd x0,W8 x1] (eB r):=
 Pu2 (hs:=[(8,.split),(12,.s),(5,.n eI 5 none),(15,.split),(21,.split),(31,.split),(35,.split),(40,.split),(45,.split),(49,.split),(61,.c eI),(5000004,.l [] [] [] [2,3,46] [kk 2,kk 3] (YW (x0,x1)))]) ((kIf (c:=x0.fKind==(2:Int)) (kG (p:=(0:Int)≤wr (x0.fBits - (1:Int))) (kN (wr ((1:Int)*(2:Int)^min (wr (x0.fBits - (1:Int))).toNat (64:Nat))) rfl fun v0=>(kIf (c:=x1.fD==(1:Int)) (kIfD (p:=wr ((0:Int) - v0)≤x1.fN) (kEr (enc:=eB) (decide (x1.fN<v0)))
 (kEr (enc:=eB) false))
 (kEr (enc:=eB) false))))
 (kJb (id:=5000004) () (fun v1 a5 v2=>(kIfD (p:=(2147483647:Int)<x1.fN) (kXj (alts:=YW (x0,x1)) a5 true (.here () rfl (.refl _) (.refl _)))
 (kIfD (p:=x1.fN< (-2147483647:Int)) (kXj (alts:=YW (x0,x1)) a5 true (.here () rfl (.refl _) (.refl _)))
 (kIfD (p:=x1.fD< (1:Int)) (kXj (alts:=YW (x0,x1)) a5 true (.here () rfl (.refl _) (.refl _)))
 (kIfD (p:=(2147483647:Int)<x1.fD) (kXj (alts:=YW (x0,x1)) a5 true (.here () rfl (.refl _) (.refl _)))
 (kXj (alts:=YW (x0,x1)) a5 false (.next (.here () rfl (.refl _) (.refl _)))))))))
 (fun v1=>(kEr (enc:=eB) false))
 (fun v1=>(kIf (c:=x0.fKind==(3:Int)) (kEr (enc:=eB) (x1.fD==(1:Int)))
 (kC (sh:=eI) (B0 (if true=true then max x1.fN (wr ((0:Int) - x1.fN)) else min x1.fN (wr ((0:Int) - x1.fN))) x1.fD) fun v5=>(kEr (enc:=eB) (v5==(1:Int)))))))) h)
def Kq(s:gLin)(u:Unit)(o:Unit ⊕ Bool):List Alt:=[⟨fun(x:Unit)=>(Sum.inl x:Unit ⊕ Bool)=o,.exit 0,fun x=>[.undef],fun x=>[]⟩,⟨fun(x:Bool)=>(Sum.inr x:Unit ⊕ Bool)=o,.ret,fun x=>[.bool x],fun x=>[]⟩]
def Xy(s:gLin)(u:Int)(o:Bool):List Alt:=jb o (fun b=>[.ptr 0 0 0,ii u,.bool b]) [.cells 0 (Qh s).cells]
def ZY(x1:gLin)(x3:Int):Option (Unit ⊕ Bool):=
 some (List.length x1.fL:Int)>>=fun v0=>
 if x3<v0 then
 some x3>>=fun v1=>
 (ix x1.fL x3>>=fun v3=>
 JE v3.fName>>=fun v4=>if v4 then
 ix x1.fL x3>>=fun v5=>
 if v5.fBy==(0:Int) then
 some true
 else
 if(0:Int)<x3 then
 ix x1.fL (wr (x3 - (1:Int)))>>=fun v6=>
 ix x1.fL x3>>=fun v7=>
 if !Op.bytesLess v6.fName v7.fName then
 some true
 else
 some false
 else
 some false
 else
 some true)>>=fun v2=>if v2 then
 some (.inr false)
 else
 ZY x1 (wr (v1+(1:Int)))
 else
 some (.inl ())
 partial_fixpoint
theorem Iw(x1:gLin)(x3:Int)(o:Unit ⊕ Bool)(h:ZY x1 x3=some o):LO 227 2 48 [1,3] [.ptr 0 0 0,ii x3] [.cells 0 (Qh x1).cells] [2] (Kq x1 () o):=
 ZY.partial_correctness x1 (fun x3 o=>LO 227 2 48 [1,3] [.ptr 0 0 0,ii x3] [.cells 0 (Qh x1).cells] [2] (Kq x1 () o))
 (fun ZY Q2m x3 o h=>
 Lp2 (hs:=[(7,.n eI 7 none),(8,.split),(14,.e Qp),(17,.cb),(23,.e Qp),(26,.split),(30,.split),(36,.e Qp),(42,.e Qp),(45,.split),(5000004,.l [] [] [] [1,3,47] [kk 1] (Xy x1))]) (kb:=[kk 1]) (kbx:=[]) ((kN _ (mLen (sh:=Qp) x1.fL) fun v0=>(kIfD (p:=x3<v0) (kJb (id:=5000004) x3 (fun v1 a5 v2=>(kIx (enc:=Qp) (l:=x1.fL) (k:=x3) fun v3=>(kCb (DQ v3.fName) (kIx (enc:=Qp) (l:=x1.fL) (k:=x3) fun v5=>(kIf (c:=v5.fBy==(0:Int)) (kXj (alts:=Xy x1) a5 true (.here () rfl (.refl _) (.refl _)))
 (kIfD (p:=(0:Int)<x3) (kIx (enc:=Qp) (l:=x1.fL) (k:=wr (x3 - (1:Int))) fun v6=>(kIx (enc:=Qp) (l:=x1.fL) (k:=x3) fun v7=>(kIf (c:= !Op.bytesLess v6.fName v7.fName) (kXj (alts:=Xy x1) a5 true (.here () rfl (.refl _) (.refl _)))
 (kXj (alts:=Xy x1) a5 false (.next (.here () rfl (.refl _) (.refl _)))))))
 (kXj (alts:=Xy x1) a5 false (.next (.here () rfl (.refl _) (.refl _)))))))
 (kXj (alts:=Xy x1) a5 true (.here () rfl (.refl _) (.refl _))))))
 (fun v1=>(kX (alts:=Kq x1 ()) (.inr false) (.next (.here _ rfl (.refl _) (.refl _)))))
 (fun v1=>(kM0 (alts:=Kq x1 ()) (Q2m (wr (v1+(1:Int)))))))
 (kX (alts:=Kq x1 ()) (.inl ()) (.here _ rfl (.refl _) (.refl _))))) h)) x3 o h
def KJ(x0:gLin):Option Bool:=
 some ()>>=fun v0=>
 ZY x0 (0:Int)>>=fun v1=>(match v1 with
 | (.inl v2)=>
 some true
 | (.inr v3)=>
 some v3)
theorem GI(x0:gLin)(r:Bool)(h:KJ x0=some r):PU 227 [Qh x0] (eB r):=
 Pu2 (hs:=[(3000003,.l [] [1,3] [kk 1] [2] [] (Kq x0))]) ((kL2 () (hL:=(Iw x0 (0:Int))) (hA:=fun v0 v2=>(kEr (enc:=eB) true))
 (hB:=fun v0 v3=>(kEr (enc:=eB) v3))) h)
def KT(s:Q0)(u:Int)(o:Unit ⊕ Bool):List Alt:=[⟨fun(x:Unit)=>(Sum.inl x:Unit ⊕ Bool)=o,.exit 2,fun x=>[.ptr 0 0 0,.undef,ii u],fun x=>[.cells 0 (Q2 s).cells]⟩,⟨fun(x:Bool)=>(Sum.inr x:Unit ⊕ Bool)=o,.ret,fun x=>[.ptr 0 0 0,.bool x,ii u],fun x=>[.cells 0 (Q2 s).cells]⟩]
def Xo(x1:Q0)(x3:Int)(x4:Int):Option (Unit ⊕ Bool):=
 ix x1.fIdx x3>>=fun v0=>
 some (List.length v0.fAt:Int)>>=fun v1=>
 if x4<v1 then
 ix x1.fIdx x3>>=fun v2=>
 ix v2.fAt x4>>=fun v3=>
 KJ v3>>=fun v4=>if v4 then
 Xo x1 x3 (wr (x4+(1:Int)))
 else
 some (.inr false)
 else
 some (.inl ())
 partial_fixpoint
theorem E3(x1:Q0)(x3:Int)(x4:Int)(o:Unit ⊕ Bool)(h:Xo x1 x3 x4=some o):LO 192 9 59 [1,3,4] [.ptr 0 0 0,ii x3,ii x4] [.cells 0 (Q2 x1).cells] [1,2,3] (KT x1 x3 o):=
 Xo.partial_correctness x1 x3 (fun x4 o=>LO 192 9 59 [1,3,4] [.ptr 0 0 0,ii x3,ii x4] [.cells 0 (Q2 x1).cells] [1,2,3] (KT x1 x3 o))
 (fun Xo Q3r x4 o h=>
 Lp2 (hs:=[(41,.e Q4),(44,.n eI 44 none),(45,.split),(51,.e Q4),(55,.e Qh),(57,.cb)]) (kb:=[kk 1]) (kbx:=[kk 1]) ((kIx (enc:=Q4) (l:=x1.fIdx) (k:=x3) fun v0=>(kN _ (mLen (sh:=Qh) v0.fAt) fun v1=>(kIfD (p:=x4<v1) (kIx (enc:=Q4) (l:=x1.fIdx) (k:=x3) fun v2=>(kIx (enc:=Qh) (l:=v2.fAt) (k:=x4) fun v3=>(kCb (GI v3) (kM0 (alts:=KT x1 x3) (Q3r (wr (x4+(1:Int)))))
 (kX (alts:=KT x1 x3) (.inr false) (.next (.here _ rfl (.refl _) (.refl _)))))))
 (kX (alts:=KT x1 x3) (.inl ()) (.here _ rfl (.refl _) (.refl _)))))) h)) x4 o h
def YR(s:Q0)(u:Unit)(o:Unit ⊕ Bool):List Alt:=[⟨fun(x:Unit)=>(Sum.inl x:Unit ⊕ Bool)=o,.exit 0,fun x=>[.undef],fun x=>[]⟩,⟨fun(x:Bool)=>(Sum.inr x:Unit ⊕ Bool)=o,.ret,fun x=>[.bool x],fun x=>[]⟩]
def Xn(x1:Q0)(x3:Int):Option (Unit ⊕ Bool):=
 some (List.length x1.fIdx:Int)>>=fun v0=>
 if x3<v0 then
 ix x1.fIdx x3>>=fun v1=>
 KJ v1.fLin>>=fun v2=>if v2 then
 some x3>>=fun v3=>
 Xo x1 x3 (0:Int)>>=fun v4=>(match v4 with
 | (.inl v5)=>
 Xn x1 (wr (v3+(1:Int)))
 | (.inr v6)=>
 some (.inr v6))
 else
 some (.inr false)
 else
 some (.inl ())
 partial_fixpoint
theorem E0(x1:Q0)(x3:Int)(o:Unit ⊕ Bool)(h:Xn x1 x3=some o):LO 192 4 59 [1,3] [.ptr 0 0 0,ii x3] [.cells 0 (Q2 x1).cells] [2] (YR x1 () o):=
 Xn.partial_correctness x1 (fun x3 o=>LO 192 4 59 [1,3] [.ptr 0 0 0,ii x3] [.cells 0 (Q2 x1).cells] [2] (YR x1 () o))
 (fun Xn Q3q x3 o h=>
 Lp2 (hs:=[(25,.n eI 25 none),(26,.split),(32,.e Q4),(35,.cb),(3000010,.l [] [1,3,4] [kk 1] [1,2,3] [kk 1] (KT x1))]) (kb:=[kk 1]) (kbx:=[]) ((kN _ (mLen (sh:=Q4) x1.fIdx) fun v0=>(kIfD (p:=x3<v0) (kIx (enc:=Q4) (l:=x1.fIdx) (k:=x3) fun v1=>(kCb (GI v1.fLin) (kL2 x3 (hL:=(E3 x1 x3 (0:Int))) (hA:=fun v3 v5=>(kM0 (alts:=YR x1 ()) (Q3q (wr (v3+(1:Int))))))
 (hB:=fun v3 v6=>(kX (alts:=YR x1 ()) (.inr v6) (.next (.here _ rfl (.refl _) (.refl _))))))
 (kX (alts:=YR x1 ()) (.inr false) (.next (.here _ rfl (.refl _) (.refl _))))))
 (kX (alts:=YR x1 ()) (.inl ()) (.here _ rfl (.refl _) (.refl _))))) h)) x3 o h
def XL(s:Q0)(u:Unit)(o:Bool):List Alt:=jb o (fun b=>[.ptr 0 0 0,.bool b]) [.cells 0 (Q2 s).cells]
def Dj(x0:Q0):Option Bool:=
 some ()>>=fun v0=>
 (if x0.fOp==(1:Int) then
 NC x0.fType x0.fVal>>=fun v2=>if v2 then
 KJ x0.fLin>>=fun v3=>if v3 then
 some false
 else
 some true
 else
 some true
 else
 KJ x0.fLin>>=fun v4=>if v4 then
 some false
 else
 some true)>>=fun v1=>if v1 then
 some false
 else
 some ()>>=fun v7=>
 Xn x0 (0:Int)>>=fun v8=>(match v8 with
 | (.inl v9)=>
 some true
 | (.inr v10)=>
 some v10)
theorem Tn(x0:Q0)(r:Bool)(h:Dj x0=some r):PU 192 [Q2 x0] (eB r):=
 Pu2 (hs:=[(7,.split),(13,.cb),(19,.cb),(3000005,.l [] [1,3] [kk 1] [2] [] (YR x0)),(5000001,.l [] [] [] [1,21] [kk 1] (XL x0))]) ((kJb (id:=5000001) () (fun v0 a4 v1=>(kIf (c:=x0.fOp==(1:Int)) (kCb (OZ x0.fType x0.fVal) (kCb (GI x0.fLin) (kXj (alts:=XL x0) a4 false (.next (.here () rfl (.refl _) (.refl _))))
 (kXj (alts:=XL x0) a4 true (.here () rfl (.refl _) (.refl _))))
 (kXj (alts:=XL x0) a4 true (.here () rfl (.refl _) (.refl _))))
 (kCb (GI x0.fLin) (kXj (alts:=XL x0) a4 false (.next (.here () rfl (.refl _) (.refl _))))
 (kXj (alts:=XL x0) a4 true (.here () rfl (.refl _) (.refl _))))))
 (fun v0=>(kEr (enc:=eB) false))
 (fun v0=>(kL2 () (hL:=(E0 x0 (0:Int))) (hA:=fun v7 v9=>(kEr (enc:=eB) true))
 (hB:=fun v7 a5=>(kEr (enc:=eB) a5))))) h)
def Vh(s:Q0)(u:Unit)(o:Unit ⊕ Int):List Alt:=[⟨fun(x:Unit)=>(Sum.inl x:Unit ⊕ Int)=o,.exit 1,fun x=>[.undef],fun x=>[]⟩,⟨fun(x:Int)=>(Sum.inr x:Unit ⊕ Int)=o,.ret,fun x=>[ii x],fun x=>[]⟩]
mutual
def VR(x0:Q0):Option Int:=
 Cc x0>>=fun v0=>if v0 then
 Cb x0>>=fun v1=>if v1 then
 Dk x0>>=fun v2=>if v2 then
 Cd x0>>=fun v3=>if v3 then
 Dj x0>>=fun v4=>if v4 then
 some ()>>=fun v5=>
 XT x0 (0:Int)>>=fun v6=>(match v6 with
 | (.inl v7)=>
 some (0:Int)
 | (.inr v8)=>
 some v8)
 else
 some (1:Int)
 else
 some (10:Int)
 else
 some (11:Int)
 else
 some (7:Int)
 else
 some (5:Int)
 partial_fixpoint
def XT(x1:Q0)(x3:Int):Option (Unit ⊕ Int):=
 some (List.length x1.fArgs:Int)>>=fun v0=>
 if x3<v0 then
 Option.map Q6.f (ix x1.fArgs x3)>>=fun v1=>
 VR v1>>=fun v2=>
 if v2 !=(0:Int) then
 some (.inr v2)
 else
 XT x1 (wr (x3+(1:Int)))
 else
 some (.inl ())
 partial_fixpoint
end
theorem Sw:(∀(x0:Q0) (r:Int),VR x0=some r→PU 157 [Q2 x0] (eI r))∧(∀(x1:Q0) (x3:Int) (o:Unit ⊕ Int),XT x1 x3=some o→LO 157 12 41 [1,3] [.ptr 0 0 0,ii x3] [.cells 0 (Q2 x1).cells] [2] (Vh x1 () o)):=
 VR.mutual_partial_correctness (fun x0 r=>PU 157 [Q2 x0] (eI r)) (fun x1 x3 o=>LO 157 12 41 [1,3] [.ptr 0 0 0,ii x3] [.cells 0 (Q2 x1).cells] [2] (Vh x1 () o))
 (fun XT Q3u x0 r h=>
 Pu2 (hs:=[(7,.cb),(11,.cb),(15,.cb),(19,.cb),(23,.cb),(3000013,.l [] [1,3] [kk 1] [2] [] (Vh x0))]) ((kCb (SO x0) (kCb (SN x0) (kCb (To x0) (kCb (SP x0) (kCb (Tn x0) (kL2 () (hL:=(Q3u x0 (0:Int))) (hA:=fun v5 v7=>(kEr (enc:=eI) (0:Int)))
 (hB:=fun v5 v8=>(kEr (enc:=eI) v8)))
 (kEr (enc:=eI) (1:Int)))
 (kEr (enc:=eI) (10:Int)))
 (kEr (enc:=eI) (11:Int)))
 (kEr (enc:=eI) (7:Int)))
 (kEr (enc:=eI) (5:Int))) h))
 (fun VR XT Q3t Q3u x1 x3 o h=>
 Lp2 (hs:=[(28,.n eI 28 none),(29,.split),(35,.e Q2),(37,.c eI),(39,.split)]) (kb:=[kk 1]) (kbx:=[]) ((kN _ (mLen (sh:=Qo) x1.fArgs) fun v0=>(kIfD (p:=x3<v0) (kIxR (l:=x1.fArgs) (k:=x3) XD fun v1=>(kC (sh:=eI) (Q3t v1) fun v2=>(kIf (c:=v2 !=(0:Int)) (kX (alts:=Vh x1 ()) (.inr v2) (.next (.here _ rfl (.refl _) (.refl _))))
 (kM0 (alts:=Vh x1 ()) (Q3u x1 (wr (x3+(1:Int))))))))
 (kX (alts:=Vh x1 ()) (.inl ()) (.here _ rfl (.refl _) (.refl _))))) h))
theorem AD(x0:Q0)(r:Int)(h:VR x0=some r):PU 157 [Q2 x0] (eI r):=(Sw).1 x0 r h
def Gh(x0:Q0):Option Int:=
 Nq x0>>=fun v0=>
 if(40:Int)<v0 then
 some (13:Int)
 else
 CT x0>>=fun v1=>
 if(2000:Int)<v1 then
 some (2:Int)
 else
 VR x0>>=fun v2=>
 some v2
theorem Ex(x0:Q0)(r:Int)(h:Gh x0=some r):PU 126 [Q2 x0] (eI r):=
 Pu2 (hs:=[(4,.c eI),(5,.split),(7,.c eI),(8,.split),(10,.c eI)]) ((kC (sh:=eI) (SL x0) fun v0=>(kIfD (p:=(40:Int)<v0) (kEr (enc:=eI) (13:Int))
 (kC (sh:=eI) (AB x0) fun v1=>(kIfD (p:=(2000:Int)<v1) (kEr (enc:=eI) (2:Int))
 (kC (sh:=eI) (AD x0) fun v2=>(kEr (enc:=eI) v2)))))) h)
def US(s:Q0)(u:Unit)(o:List Q6):List Alt:=[⟨fun(x:List Q6)=>x=o,.exit 0,fun x=>[.sl 13 (List.map Qo x)],fun x=>[]⟩]
mutual
def JG(x0:Q0):Option (List Q6):=
 some ()>>=fun v0=>
 YM x0 [(Q6.mk x0)] (0:Int)>>=fun v2=>
 some v2
 partial_fixpoint
def YM(x1:Q0)(x3:List Q6)(x4:Int):Option (List Q6):=
 some (List.length x1.fArgs:Int)>>=fun v0=>
 if x4<v0 then
 Option.map Q6.f (ix x1.fArgs x4)>>=fun v1=>
 JG v1>>=fun v2=>
 if(x3.length+(List.map Qo v2).length)*(160:Nat)≤(140737488355328:Nat)∧x3.length+(List.map Qo v2).length≤(9223372036854775807:Nat) then
 some (x3++v2)>>=fun v3=>
 YM x1 v3 (wr (x4+(1:Int)))
 else none
 else
 some x3
 partial_fixpoint
end
theorem Aq:(∀(x0:Q0) (r:List Q6),JG x0=some r→PU 127 [Q2 x0] (Yw r))∧(∀(x1:Q0) (x3:List Q6) (x4:Int) (o:List Q6),YM x1 x3 x4=some o→LO 127 3 23 [1,3,4] [.ptr 0 0 0,.ow 1 0 13 (List.length x3),ii x4] [.cells 0 (Q2 x1).cells,.own 0 13 (List.map Qo x3)] [3] (US x1 () o)):=
 JG.mutual_partial_correctness (fun x0 r=>PU 127 [Q2 x0] (Yw r)) (fun x1 x3 x4 o=>LO 127 3 23 [1,3,4] [.ptr 0 0 0,.ow 1 0 13 (List.length x3),ii x4] [.cells 0 (Q2 x1).cells,.own 0 13 (List.map Qo x3)] [3] (US x1 () o))
 (fun YM Q3n x0 r h=>
 Pu2 (hs:=[(3000004,.l [] [1,3,4] [kk 1,{slot:=3,own:=13}] [3] [{slot:=3,fz:=true}] (US x0))]) ((kL1 () (fun y hy=>Ys.le (.cons (LeV.refl (AV.ptr (0:Nat) (0:Nat) (0:Nat))) (.cons (LeV.refl (AV.ow (1:Nat) (0:Nat) (13:Nat) (1:Nat))) (.cons (LeV.refl (ii (0:Int))) .nil))) (.cons (LeB.refl (Box.cells (0:Nat) [ii x0.fOp,AV.str x0.fName,ii x0.fVal.fN,ii x0.fVal.fD,ii x0.fType.fKind,ii x0.fType.fBits,ii x0.fType.fFrac,ii x0.fType.fRound,ii x0.fType.fOver,ii x0.fLin.fK,AV.sl (2:Nat) (List.map Qp x0.fLin.fL),AV.sl (4:Nat) (List.map Q4 x0.fIdx),AV.sl (13:Nat) (List.map Qo x0.fArgs)])) (.cons (LeB.own (0:Nat) (13:Nat) (.cons (legExpr x0) .nil)) .nil)) (Q3n x0 [(Q6.mk x0)] (0:Int) y hy)) fun v0 v2=>(kEr (enc:=Yw) v2)) h))
 (fun JG YM Q3m Q3n x1 x3 x4 o h=>
 Lp2 (hs:=[(10,.n eI 10 none),(11,.split),(18,.e Q2),(20,.c Yw),(21,.z [{slot:=14,own:=13}] (some (.n Qo 21 (some .a))))]) (kb:=[kk 1,{slot:=3,own:=13}]) (kbx:=[{slot:=3,fz:=true}]) ((kN _ (mLen (sh:=Qo) x1.fArgs) fun v0=>(kIfD (p:=x4<v0) (kIxR (l:=x1.fArgs) (k:=x4) XD fun v1=>(kC (sh:=Yw) (Q3m v1) fun v2=>(kA (q:=(x3.length+(List.map Qo v2).length)*(160:Nat)≤(140737488355328:Nat)∧x3.length+(List.map Qo v2).length≤(9223372036854775807:Nat)) (sh:=Qo) (l:=x3) (kO (sh:=Qo) (x3++v2) (mAA (sh:=Qo) x3 v2) (nAA (sh:=Qo) x3 v2) fun v3=>(kM0 (alts:=US x1 ()) (Q3n x1 v3 (wr (x4+(1:Int)))))))))
 (kT (nM (sh:=Qo) x3) (kX (alts:=US x1 ()) x3 (.here _ rfl (.refl _) (.refl _)))))) h))
theorem Pt(x0:Q0)(r:List Q6)(h:JG x0=some r):PU 127 [Q2 x0] (Yw r):=(Aq).1 x0 r h
def Vm(s:((List gLin)× (List Qt)×Int))(u:Int)(o:Bool):List Alt:=[⟨fun(x:Bool)=>x=o,.exit 4,fun x=>[.sl 2 (List.map Qh s.1),.sl 2 (List.map Qs s.2.1),ii s.2.2,ii u,.bool x],fun x=>[]⟩]
def X8(x0:List gLin)(x1:List Qt)(x5:Int)(x6:Int)(x7:Bool)(x8:Int):Option Bool:=
 some (List.length x1:Int)>>=fun v0=>
 if x8<v0 then
 if x7 then
 X8 x0 x1 x5 x6 true (wr (x8+(1:Int)))
 else
 ix x1 x8>>=fun v1=>
 ix x0 x5>>=fun v2=>
 ix v2.fL x6>>=fun v3=>
 X8 x0 x1 x5 x6 (v1.fName==v3.fName) (wr (x8+(1:Int)))
 else
 some x7
 partial_fixpoint
theorem EE(x0:List gLin)(x1:List Qt)(x5:Int)(x6:Int)(x7:Bool)(x8:Int)(o:Bool)(h:X8 x0 x1 x5 x6 x7 x8=some o):LO 158 9 51 [0,1,5,6,7,8] [.sl 2 (List.map Qh x0),.sl 2 (List.map Qs x1),ii x5,ii x6,.bool x7,ii x8] [] [0,1,5,6,7] (Vm (x0,x1,x5) x6 o):=
 X8.partial_correctness x0 x1 x5 x6 (fun x7 x8 o=>LO 158 9 51 [0,1,5,6,7,8] [.sl 2 (List.map Qh x0),.sl 2 (List.map Qs x1),ii x5,ii x6,.bool x7,ii x8] [] [0,1,5,6,7] (Vm (x0,x1,x5) x6 o))
 (fun X8 Q48 x7 x8 o h=>
 Lp2 (hs:=[(27,.n eI 27 none),(28,.split),(31,.split),(35,.e Qs),(40,.e Qh),(44,.e Qp)]) (kb:=[]) (kbx:=[]) ((kN _ (mLen (sh:=Qs) x1) fun v0=>(kIfD (p:=x8<v0) (kIf (c:=x7) (kM0 (alts:=Vm (x0,x1,x5) x6) (Q48 true (wr (x8+(1:Int)))))
 (kIx (enc:=Qs) (l:=x1) (k:=x8) fun v1=>(kIx (enc:=Qh) (l:=x0) (k:=x5) fun v2=>(kIx (enc:=Qp) (l:=v2.fL) (k:=x6) fun v3=>(kM0 (alts:=Vm (x0,x1,x5) x6) (Q48 (v1.fName==v3.fName) (wr (x8+(1:Int)))))))))
 (kX (alts:=Vm (x0,x1,x5) x6) x7 (.here _ rfl (.refl _) (.refl _))))) h)) x7 x8 o h
def Vl(s:((List gLin)× (List Qt)))(u:Int)(o:Unit ⊕ Bool):List Alt:=[⟨fun(x:Unit)=>(Sum.inl x:Unit ⊕ Bool)=o,.exit 2,fun x=>[.sl 2 (List.map Qh s.1),.sl 2 (List.map Qs s.2),.undef,ii u],fun x=>[]⟩,⟨fun(x:Bool)=>(Sum.inr x:Unit ⊕ Bool)=o,.ret,fun x=>[.sl 2 (List.map Qh s.1),.sl 2 (List.map Qs s.2),.bool x,ii u],fun x=>[]⟩]
def XX(x0:List gLin)(x1:List Qt)(x5:Int)(x6:Int):Option (Unit ⊕ Bool):=
 ix x0 x5>>=fun v0=>
 some (List.length v0.fL:Int)>>=fun v1=>
 if x6<v1 then
 some x6>>=fun v2=>
 X8 x0 x1 x5 x6 false (0:Int)>>=fun v4=>
 if v4 then
 XX x0 x1 x5 (wr (v2+(1:Int)))
 else
 some (.inr false)
 else
 some (.inl ())
 partial_fixpoint
theorem ED(x0:List gLin)(x1:List Qt)(x5:Int)(x6:Int)(o:Unit ⊕ Bool)(h:XX x0 x1 x5 x6=some o):LO 158 5 51 [0,1,5,6] [.sl 2 (List.map Qh x0),.sl 2 (List.map Qs x1),ii x5,ii x6] [] [0,1,4,5] (Vl (x0,x1) x5 o):=
 XX.partial_correctness x0 x1 x5 (fun x6 o=>LO 158 5 51 [0,1,5,6] [.sl 2 (List.map Qh x0),.sl 2 (List.map Qs x1),ii x5,ii x6] [] [0,1,4,5] (Vl (x0,x1) x5 o))
 (fun XX Q47 x6 o h=>
 Lp2 (hs:=[(18,.e Qh),(21,.n eI 21 none),(22,.split),(49,.split),(3000010,.l [] [0,1,5,6,7,8] [] [0,1,5,6,7] [] (Vm (x0,x1,x5)))]) (kb:=[]) (kbx:=[]) ((kIx (enc:=Qh) (l:=x0) (k:=x5) fun v0=>(kN _ (mLen (sh:=Qp) v0.fL) fun v1=>(kIfD (p:=x6<v1) (kL1 x6 (EE x0 x1 x5 x6 false (0:Int)) fun v2 v4=>(kIf (c:=v4) (kM0 (alts:=Vl (x0,x1) x5) (Q47 (wr (v2+(1:Int)))))
 (kX (alts:=Vl (x0,x1) x5) (.inr false) (.next (.here _ rfl (.refl _) (.refl _))))))
 (kX (alts:=Vl (x0,x1) x5) (.inl ()) (.here _ rfl (.refl _) (.refl _)))))) h)) x6 o h
def Vk(s:((List gLin)× (List Qt)))(u:Unit)(o:Unit ⊕ Bool):List Alt:=[⟨fun(x:Unit)=>(Sum.inl x:Unit ⊕ Bool)=o,.exit 0,fun x=>[.undef],fun x=>[]⟩,⟨fun(x:Bool)=>(Sum.inr x:Unit ⊕ Bool)=o,.ret,fun x=>[.bool x],fun x=>[]⟩]
def XW(x0:List gLin)(x1:List Qt)(x5:Int):Option (Unit ⊕ Bool):=
 some (List.length x0:Int)>>=fun v0=>
 if x5<v0 then
 some x5>>=fun v1=>
 XX x0 x1 x5 (0:Int)>>=fun v2=>(match v2 with
 | (.inl v3)=>
 XW x0 x1 (wr (v1+(1:Int)))
 | (.inr v4)=>
 some (.inr v4))
 else
 some (.inl ())
 partial_fixpoint
theorem EC(x0:List gLin)(x1:List Qt)(x5:Int)(o:Unit ⊕ Bool)(h:XW x0 x1 x5=some o):LO 158 2 51 [0,1,5] [.sl 2 (List.map Qh x0),.sl 2 (List.map Qs x1),ii x5] [] [4] (Vk (x0,x1) () o):=
 XW.partial_correctness x0 x1 (fun x5 o=>LO 158 2 51 [0,1,5] [.sl 2 (List.map Qh x0),.sl 2 (List.map Qs x1),ii x5] [] [4] (Vk (x0,x1) () o))
 (fun XW Q46 x5 o h=>
 Lp2 (hs:=[(11,.n eI 11 none),(12,.split),(3000006,.l [] [0,1,5,6] [] [0,1,4,5] [] (Vl (x0,x1)))]) (kb:=[]) (kbx:=[]) ((kN _ (mLen (sh:=Qh) x0) fun v0=>(kIfD (p:=x5<v0) (kL2 x5 (hL:=(ED x0 x1 x5 (0:Int))) (hA:=fun v1 v3=>(kM0 (alts:=Vk (x0,x1) ()) (Q46 (wr (v1+(1:Int))))))
 (hB:=fun v1 v4=>(kX (alts:=Vk (x0,x1) ()) (.inr v4) (.next (.here _ rfl (.refl _) (.refl _))))))
 (kX (alts:=Vk (x0,x1) ()) (.inl ()) (.here _ rfl (.refl _) (.refl _))))) h)) x5 o h
def Gr(x0:List gLin)(x1:List Qt):Option Bool:=
 some ()>>=fun v0=>
 XW x0 x1 (0:Int)>>=fun v1=>(match v1 with
 | (.inl v2)=>
 some true
 | (.inr v3)=>
 some v3)
theorem Ic(x0:List gLin)(x1:List Qt)(r:Bool)(h:Gr x0 x1=some r):PU 158 [G4 x0,Ux x1] (eB r):=
 Pu2 (hs:=[(3000003,.l [] [0,1,5] [] [4] [] (Vk (x0,x1)))]) ((kL2 () (hL:=(EC x0 x1 (0:Int))) (hA:=fun v0 v2=>(kEr (enc:=eB) true))
 (hB:=fun v0 v3=>(kEr (enc:=eB) v3))) h)
def Un(s:List Qf)(u:Unit)(o:List gLin):List Alt:=[⟨fun(x:List gLin)=>x=o,.exit 0,fun x=>[.sl 2 (List.map Qh x)],fun x=>[]⟩]
def Yp(x0:List Qf)(x3:List gLin)(x4:Int):Option (List gLin):=
 some (List.length x0:Int)>>=fun v0=>
 if x4<v0 then
 ix x0 x4>>=fun v1=>
 if(x3.length+(1:Nat))*(32:Nat)≤(140737488355328:Nat)∧x3.length+(1:Nat)≤(9223372036854775807:Nat) then
 some (x3++[v1.fLin])>>=fun v2=>
 ix x0 x4>>=fun v3=>
 if(v2.length+(List.map Qh v3.fAt).length)*(32:Nat)≤(140737488355328:Nat)∧v2.length+(List.map Qh v3.fAt).length≤(9223372036854775807:Nat) then
 some (v2++v3.fAt)>>=fun v4=>
 Yp x0 v4 (wr (x4+(1:Int)))
 else none
 else none
 else
 some x3
 partial_fixpoint
theorem Rg(x0:List Qf)(x3:List gLin)(x4:Int)(o:List gLin)(h:Yp x0 x3 x4=some o):LO 159 3 27 [0,3,4] [.sl 4 (List.map Q4 x0),.ow 0 0 2 (List.length x3),ii x4] [.own 0 2 (List.map Qh x3)] [3] (Un x0 () o):=
 Yp.partial_correctness x0 (fun x3 x4 o=>LO 159 3 27 [0,3,4] [.sl 4 (List.map Q4 x0),.ow 0 0 2 (List.length x3),ii x4] [.own 0 2 (List.map Qh x3)] [3] (Un x0 () o))
 (fun Yp Q4d x3 x4 o h=>
 Lp2 (hs:=[(7,.n eI 7 none),(8,.split),(14,.e Q4),(18,.z [{slot:=11,own:=2}] (some (.n Qh 18 (some .a)))),(22,.e Q4),(25,.z [{slot:=19,own:=2}] (some (.n Qh 25 (some .a))))]) (kb:=[{slot:=3,own:=2}]) (kbx:=[{slot:=3,fz:=true}]) ((kN _ (mLen (sh:=Q4) x0) fun v0=>(kIfD (p:=x4<v0) (kIx (enc:=Q4) (l:=x0) (k:=x4) fun v1=>(kA (q:=(x3.length+(1:Nat))*(32:Nat)≤(140737488355328:Nat)∧x3.length+(1:Nat)≤(9223372036854775807:Nat)) (sh:=Qh) (l:=x3) (kO (sh:=Qh) (x3++[v1.fLin]) (mA (sh:=Qh) x3 v1.fLin) (nA x3 v1.fLin) fun v2=>(kIx (enc:=Q4) (l:=x0) (k:=x4) fun v3=>(kA (q:=(v2.length+(List.map Qh v3.fAt).length)*(32:Nat)≤(140737488355328:Nat)∧v2.length+(List.map Qh v3.fAt).length≤(9223372036854775807:Nat)) (sh:=Qh) (l:=v2) (kO (sh:=Qh) (v2++v3.fAt) (mAA (sh:=Qh) v2 v3.fAt) (nAA (sh:=Qh) v2 v3.fAt) fun v4=>(kM0 (alts:=Un x0 ()) (Q4d v4 (wr (x4+(1:Int)))))))))))
 (kT (nM (sh:=Qh) x3) (kX (alts:=Un x0 ()) x3 (.here _ rfl (.refl _) (.refl _)))))) h)) x3 x4 o h
def CX(x0:List Qf):Option (List gLin):=
 some ()>>=fun v0=>
 Yp x0 [] (0:Int)>>=fun v2=>
 some v2
theorem AI(x0:List Qf)(r:List gLin)(h:CX x0=some r):PU 159 [Kn x0] (G4 r):=
 Pu2 (hs:=[(3000004,.l [] [0,3,4] [{slot:=3,own:=2}] [3] [{slot:=3,fz:=true}] (Un x0))]) ((kL1 () (Rg x0 [] (0:Int)) fun v0 v2=>(kEr (enc:=G4) v2)) h)
def XQ(s:(Qi×Q0))(u:Unit)(o:Unit ⊕ Int):List Alt:=[⟨fun(x:Unit)=>(Sum.inl x:Unit ⊕ Int)=o,.exit 0,fun x=>[.undef],fun x=>[]⟩,⟨fun(x:Int)=>(Sum.inr x:Unit ⊕ Int)=o,.ret,fun x=>[ii x],fun x=>[]⟩]
def Xa(x3:Qi)(x5:Q0)(x9:Int):Option (Unit ⊕ Int):=
 some (List.length x5.fIdx:Int)>>=fun v0=>
 if x9<v0 then
 ix x5.fIdx x9>>=fun v1=>
 if v1.fFrom==[] then
 Xa x3 x5 (wr (x9+(1:Int)))
 else
 ix x5.fIdx x9>>=fun v2=>
 Ku x3 v2.fFrom>>=fun v3=>
 if v3.snd then
 if v3.fst.fType.fKind !=(3:Int) then
 some (.inr (10:Int))
 else
 ix x5.fIdx x9>>=fun v4=>
 some (List.length v3.fst.fDims:Int)>>=fun v5=>
 some (List.length v4.fAt:Int)>>=fun v6=>
 if v5 !=v6 then
 some (.inr (11:Int))
 else
 Xa x3 x5 (wr (x9+(1:Int)))
 else
 some (.inr (9:Int))
 else
 some (.inl ())
 partial_fixpoint
theorem EF(x3:Qi)(x5:Q0)(x9:Int)(o:Unit ⊕ Int)(h:Xa x3 x5 x9=some o):LO 128 11 90 [3,5,9] [.ptr 0 0 0,.ptr 1 0 0,ii x9] [.cells 0 (Qw x3).cells,.cells 0 (Q2 x5).cells] [6] (XQ (x3,x5) () o):=
 Xa.partial_correctness x3 x5 (fun x9 o=>LO 128 11 90 [3,5,9] [.ptr 0 0 0,.ptr 1 0 0,ii x9] [.cells 0 (Qw x3).cells,.cells 0 (Q2 x5).cells] [6] (XQ (x3,x5) () o))
 (fun Xa Q4e x9 o h=>
 Lp2 (hs:=[(48,.n eI 48 none),(49,.split),(55,.e Q4),(58,.split),(64,.e Q4),(67,.c Qz),(71,.split),(77,.split),(81,.n eI 81 none),(85,.e Q4),(88,.n eI 88 none),(89,.split)]) (kb:=[kk 3,kk 5]) (kbx:=[]) ((kN _ (mLen (sh:=Q4) x5.fIdx) fun v0=>(kIfD (p:=x9<v0) (kIx (enc:=Q4) (l:=x5.fIdx) (k:=x9) fun v1=>(kIf (c:=v1.fFrom==[]) (kM0 (alts:=XQ (x3,x5) ()) (Q4e (wr (x9+(1:Int)))))
 (kIx (enc:=Q4) (l:=x5.fIdx) (k:=x9) fun v2=>(kC (sh:=Qz) (G0 x3 v2.fFrom) fun v3=>(kIf (c:=v3.snd) (kIf (c:=v3.fst.fType.fKind !=(3:Int)) (kX (alts:=XQ (x3,x5) ()) (.inr (10:Int)) (.next (.here _ rfl (.refl _) (.refl _))))
 (kIx (enc:=Q4) (l:=x5.fIdx) (k:=x9) fun v4=>(kN _ (mLen (sh:=eI) v3.fst.fDims) fun v5=>(kN _ (mLen (sh:=Qh) v4.fAt) fun v6=>(kIf (c:=v5 !=v6) (kX (alts:=XQ (x3,x5) ()) (.inr (11:Int)) (.next (.here _ rfl (.refl _) (.refl _))))
 (kM0 (alts:=XQ (x3,x5) ()) (Q4e (wr (x9+(1:Int))))))))))
 (kX (alts:=XQ (x3,x5) ()) (.inr (9:Int)) (.next (.here _ rfl (.refl _) (.refl _)))))))))
 (kX (alts:=XQ (x3,x5) ()) (.inl ()) (.here _ rfl (.refl _) (.refl _))))) h)) x9 o h
def J8(s:(Qi×Q0))(u:Unit)(o:Bool):List Alt:=jb o (fun b=>[.ptr 0 0 0,.ptr 1 0 0,.bool b]) [.cells 0 (Qw (s.1)).cells,.cells 0 (Q2 (s.2)).cells]
def CY(x0:Qi)(x1:List Qt)(x2:Q0):Option Int:=
 some ()>>=fun v0=>
 (Gr [x2.fLin] x1>>=fun v2=>if v2 then
 CX x2.fIdx>>=fun v3=>
 Gr v3 x1>>=fun v4=>if v4 then
 some false
 else
 some true
 else
 some true)>>=fun v1=>if v1 then
 some (9:Int)
 else
 if x2.fOp !=(3:Int) then
 some (0:Int)
 else
 Ku x0 x2.fName>>=fun v7=>
 if v7.snd then
 some (List.length v7.fst.fDims:Int)>>=fun v8=>
 some (List.length x2.fIdx:Int)>>=fun v9=>
 if v8 !=v9 then
 some (11:Int)
 else
 some ()>>=fun a9=>
 Xa x0 x2 (0:Int)>>=fun a4=>(match a4 with
 | (.inl v12)=>
 some (0:Int)
 | (.inr v13)=>
 some v13)
 else
 some (9:Int)
theorem AJ(x0:Qi)(x1:List Qt)(x2:Q0)(r:Int)(h:CY x0 x1 x2=some r):PU 128 [Qw x0,Ux x1,Q2 x2] (eI r):=
 Pu2 (hs:=[(16,.cb),(21,.c G4),(23,.cb),(28,.split),(33,.c Qz),(36,.split),(40,.n eI 40 none),(43,.n eI 43 none),(44,.split),(3000012,.l [] [3,5,9] [kk 3,kk 5] [6] [] (XQ (x0,x2))),(5000001,.l [] [] [] [3,5,25] [kk 3,kk 5] (J8 (x0,x2)))]) ((kJb (id:=5000001) () (fun v0 a5 v1=>(kCb (Ic [x2.fLin] x1) (kC (sh:=G4) (AI x2.fIdx) fun v3=>(kCb (Ic v3 x1) (kXj (alts:=J8 (x0,x2)) a5 false (.next (.here () rfl (.refl _) (.refl _))))
 (kXj (alts:=J8 (x0,x2)) a5 true (.here () rfl (.refl _) (.refl _)))))
 (kXj (alts:=J8 (x0,x2)) a5 true (.here () rfl (.refl _) (.refl _)))))
 (fun v0=>(kEr (enc:=eI) (9:Int)))
 (fun v0=>(kIf (c:=x2.fOp !=(3:Int)) (kEr (enc:=eI) (0:Int))
 (kC (sh:=Qz) (G0 x0 x2.fName) fun v7=>(kIf (c:=v7.snd) (kN _ (mLen (sh:=eI) v7.fst.fDims) fun v8=>(kN _ (mLen (sh:=Q4) x2.fIdx) fun v9=>(kIf (c:=v8 !=v9) (kEr (enc:=eI) (11:Int))
 (kL2 () (hL:=(EF x0 x2 (0:Int))) (hA:=fun a7 ab=>(kEr (enc:=eI) (0:Int)))
 (hB:=fun a7 a8=>(kEr (enc:=eI) a8))))))
 (kEr (enc:=eI) (9:Int))))))) h)
def KG(s:(Qi×Q0))(u:Unit)(o:(Q8× (List Q8)) ⊕ (Q8×Int)):List Alt:=[⟨fun(x:(Q8× (List Q8)))=>(Sum.inl x:(Q8× (List Q8)) ⊕ (Q8×Int))=o,.exit 0,fun x=>[.ptr 0 0 0,.ptr 1 0 0,.ptr 2 0 0,.undef,.sl 5 (List.map Qd x.2)],fun x=>[.cells 0 (Qw s.1).cells,.cells 0 (Q2 s.2).cells,.cells 0 (Qd x.1).cells]⟩,⟨fun(x:(Q8×Int))=>(Sum.inr x:(Q8× (List Q8)) ⊕ (Q8×Int))=o,.ret,fun x=>[.ptr 0 0 0,.ptr 1 0 0,.ptr 2 0 0,ii x.2,.undef],fun x=>[.cells 0 (Qw s.1).cells,.cells 0 (Q2 s.2).cells,.cells 0 (Qd x.1).cells]⟩]
def J4(s:(Qi×Q0))(u:(Q8× (List Q8)))(o:Bool):List Alt:=jb o (fun b=>[.ptr 0 0 0,.ptr 1 0 0,.ptr 2 0 0,.sl 5 (List.map Qd (u.2)),.bool b]) [.cells 0 (Qw (s.1)).cells,.cells 0 (Q2 (s.2)).cells,.cells 0 (Qd (u.1)).cells]
def J5(s:(Qi×Q0))(u:(Q8× (List Q8)×Int))(o:Bool):List Alt:=jb o (fun b=>[.ptr 0 0 0,.ptr 1 0 0,.ptr 2 0 0,.sl 5 (List.map Qd (u.2.1)),ii (u.2.2),.bool b]) [.cells 0 (Qw (s.1)).cells,.cells 0 (Q2 (s.2)).cells,.cells 0 (Qd (u.1)).cells]
mutual
def KN(x0:Qi)(x1:Q0):Option (Q8×Int):=
 some ()>>=fun v0=>
 XG x0 x1 (Q8.mk (0:Int) (0:Int) (0:Int) (0:Int) (0:Int)) [] (0:Int)>>=fun v1=>(match v1 with
 | (.inl v2)=>
 some (v2.fst,v2.snd)>>=fun v3=>
 (if(↑(List.map Qd v2.snd).length:Int)==(2:Int) then
 ix v2.snd (0:Int)>>=fun v5=>
 ix v2.snd (1:Int)>>=fun v6=>
 some (List.length v2.snd:Int)>>=fun v7=>
 if !(v5.fKind==v6.fKind&& (v5.fBits==v6.fBits&& (v5.fFrac==v6.fFrac&& (v5.fRound==v6.fRound&& (v5.fOver==v6.fOver&&true))))) then
 some true
 else
 some false
 else
 some (List.length v2.snd:Int)>>=fun v8=>
 some false)>>=fun v4=>if v4 then
 some ((Q8.mk (0:Int) (0:Int) (0:Int) (0:Int) (0:Int)))>>=fun a7=>
 some (a7,(10:Int))
 else
 some (v3.fst,v3.snd,x1.fOp)>>=fun a3=>
 (if x1.fOp==(1:Int) then
 some true
 else
 if x1.fOp==(12:Int) then
 some true
 else
 some false)>>=fun a8=>if a8 then
 some (x1.fType,(0:Int))
 else
 if a3.snd.snd==(2:Int) then
 some ((Q8.mk (3:Int) (0:Int) (0:Int) (0:Int) (0:Int)))>>=fun a9=>
 some (a9,(0:Int))
 else
 if a3.snd.snd==(3:Int) then
 Ku x0 x1.fName>>=fun aa=>
 some (aa.fst.fType,(0:Int))
 else
 Xi x1>>=fun ab=>if ab then
 some ((Q8.mk (0:Int) (0:Int) (0:Int) (0:Int) (0:Int)))>>=fun ac=>
 some (ac,(0:Int))
 else
 ix a3.snd.fst (0:Int)>>=fun ad=>
 some (ad,(0:Int))
 | (.inr v21)=>
 some (v21.fst,v21.snd))
 partial_fixpoint
def XG(x2:Qi)(x3:Q0)(x4:Q8)(x6:List Q8)(x7:Int):Option ((Q8× (List Q8)) ⊕ (Q8×Int)):=
 some (List.length x3.fArgs:Int)>>=fun v0=>
 if x7<v0 then
 Option.map Q6.f (ix x3.fArgs x7)>>=fun v1=>
 KN x2 v1>>=fun v2=>
 if v2.snd !=(0:Int) then
 some ((Q8.mk (0:Int) (0:Int) (0:Int) (0:Int) (0:Int)))>>=fun v3=>
 some (.inr (v3,v2.snd))
 else
 Option.map Q6.f (ix x3.fArgs x7)>>=fun v4=>
 Xi v4>>=fun v5=>if v5 then
 XG x2 x3 x4 x6 (wr (x7+(1:Int)))
 else
 if(x6.length+(1:Nat))*(40:Nat)≤(140737488355328:Nat)∧x6.length+(1:Nat)≤(9223372036854775807:Nat) then
 some (x6++[v2.fst])>>=fun v6=>
 XG x2 x3 x4 v6 (wr (x7+(1:Int)))
 else none
 else
 some (.inl (x4,x6))
 partial_fixpoint
end
theorem Sy(x0:Qi):(∀(x1:Q0) (r:(Q8×Int)),KN x0 x1=some r→PU 129 [Qw x0,Q2 x1] (Ql r))∧(∀(x3:Q0) (x4:Q8) (x6:List Q8) (x7:Int) (o:(Q8× (List Q8)) ⊕ (Q8×Int)),XG x0 x3 x4 x6 x7=some o→LO 129 3 84 [2,3,4,6,7] [.ptr 0 0 0,.ptr 1 0 0,.ptr 2 0 0,.ow 3 0 5 (List.length x6),ii x7] [.cells 0 (Qw x0).cells,.cells 0 (Q2 x3).cells,.cells 0 (Qd x4).cells,.own 0 5 (List.map Qd x6)] [2,3,4,5,6] (KG (x0,x3) () o)):=
 KN.mutual_partial_correctness x0 (fun x1 r=>PU 129 [Qw x0,Q2 x1] (Ql r)) (fun x3 x4 x6 x7 o=>LO 129 3 84 [2,3,4,6,7] [.ptr 0 0 0,.ptr 1 0 0,.ptr 2 0 0,.ow 3 0 5 (List.length x6),ii x7] [.cells 0 (Qw x0).cells,.cells 0 (Q2 x3).cells,.cells 0 (Qd x4).cells,.own 0 5 (List.map Qd x6)] [2,3,4,5,6] (KG (x0,x3) () o))
 (fun XG Q43 x1 r h=>
 Pu2 (hs:=[(45,.n eI 45 none),(46,.split),(49,.e Qd),(52,.e Qd),(54,.split),(56,.n Qd 56 none),(59,.split),(59,.split),(65,.split),(66,.n Qd 66 none),(68,.split),(73,.c Qz),(79,.cb),(80,.n Qd 80 none),(82,.e Qd),(3000004,.l [] [2,3,4,6,7] [kk 2,kk 3,kk 4,{slot:=6,own:=5}] [2,3,4,5,6] [kk 2,kk 3,kk 4,{slot:=6,fz:=true}] (KG (x0,x1))),(5000010,.l [] [] [] [2,3,4,6,55] [kk 2,kk 3,kk 4,{slot:=6,fz:=true}] (J4 (x0,x1))),(6000015,.l [] [] [] [2,3,4,6,58,59] [kk 2,kk 3,kk 4,{slot:=6,fz:=true}] (J5 (x0,x1)))]) ((kL2 () (hL:=(Q43 x1 (Q8.mk (0:Int) (0:Int) (0:Int) (0:Int) (0:Int)) [] (0:Int))) (hA:=fun v0 v2=>(kJb (id:=5000010) (v2.fst,v2.snd) (fun v3 ac v4=>(kIf (c:=(↑(List.map Qd v2.snd).length:Int)==(2:Int)) (kIx (enc:=Qd) (l:=v2.snd) (k:=(0:Int)) fun v5=>(kIx (enc:=Qd) (l:=v2.snd) (k:=(1:Int)) fun v6=>(kN _ (mLen (sh:=Qd) v2.snd) fun v7=>(kIf (c:= !(v5.fKind==v6.fKind&& (v5.fBits==v6.fBits&& (v5.fFrac==v6.fFrac&& (v5.fRound==v6.fRound&& (v5.fOver==v6.fOver&&true)))))) (kXj (alts:=J4 (x0,x1)) ac true (.here () rfl (.refl _) (.refl _)))
 (kXj (alts:=J4 (x0,x1)) ac false (.next (.here () rfl (.refl _) (.refl _))))))))
 (kN _ (mLen (sh:=Qd) v2.snd) fun v8=>(kXj (alts:=J4 (x0,x1)) ac false (.next (.here () rfl (.refl _) (.refl _)))))))
 (fun v3=>(kW (sh:=Qd) (Q8.mk (0:Int) (0:Int) (0:Int) (0:Int) (0:Int)) lr fun ai=>(kEr (enc:=Ql) (ai,(10:Int)))))
 (fun v3=>(kJb (id:=6000015) (v3.fst,v3.snd,x1.fOp) (fun a9 a8 ar=>(kIf (c:=x1.fOp==(1:Int)) (kXj (alts:=J5 (x0,x1)) a8 true (.here () rfl (.refl _) (.refl _)))
 (kIf (c:=x1.fOp==(12:Int)) (kXj (alts:=J5 (x0,x1)) a8 true (.here () rfl (.refl _) (.refl _)))
 (kXj (alts:=J5 (x0,x1)) a8 false (.next (.here () rfl (.refl _) (.refl _)))))))
 (fun a9=>(kEr (enc:=Ql) (x1.fType,(0:Int))))
 (fun a9=>(kIf (c:=a9.snd.snd==(2:Int)) (kW (sh:=Qd) (Q8.mk (3:Int) (0:Int) (0:Int) (0:Int) (0:Int)) lr fun aj=>(kEr (enc:=Ql) (aj,(0:Int))))
 (kIf (c:=a9.snd.snd==(3:Int)) (kC (sh:=Qz) (G0 x0 x1.fName) fun ak=>(kEr (enc:=Ql) (ak.fst.fType,(0:Int))))
 (kCb (Vc x1) (kW (sh:=Qd) (Q8.mk (0:Int) (0:Int) (0:Int) (0:Int) (0:Int)) lr fun am=>(kEr (enc:=Ql) (am,(0:Int))))
 (kIx (enc:=Qd) (l:=a9.snd.fst) (k:=(0:Int)) fun ao=>(kEr (enc:=Ql) (ao,(0:Int))))))))))))
 (hB:=fun v0 af=>(kEr (enc:=Ql) (af.fst,af.snd)))) h))
 (fun KN XG Q42 Q43 x3 x4 x6 x7 o h=>
 Lp2 (hs:=[(15,.n eI 15 none),(16,.split),(24,.e Q2),(26,.c Ql),(30,.split),(31,.n Qd 31 none),(36,.e Q2),(38,.cb),(43,.z [{slot:=40,own:=5}] (some (.n Qd 43 (some .a))))]) (kb:=[kk 2,kk 3,kk 4,{slot:=6,own:=5}]) (kbx:=[kk 2,kk 3,kk 4,{slot:=6,fz:=true}]) ((kN _ (mLen (sh:=Qo) x3.fArgs) fun v0=>(kIfD (p:=x7<v0) (kIxR (l:=x3.fArgs) (k:=x7) XD fun v1=>(kC (sh:=Ql) (Q42 v1) fun v2=>(kIf (c:=v2.snd !=(0:Int)) (kW (sh:=Qd) (Q8.mk (0:Int) (0:Int) (0:Int) (0:Int) (0:Int)) lr fun v3=>(kT (nM (sh:=Qd) x6) (kX (alts:=KG (x0,x3) ()) (.inr (v3,v2.snd)) (.next (.here _ rfl (.cons (LeV.refl (AV.ptr (0:Nat) (0:Nat) (0:Nat))) (.cons (LeV.refl (AV.ptr (1:Nat) (0:Nat) (0:Nat))) (.cons (LeV.refl (AV.ptr (2:Nat) (0:Nat) (0:Nat))) (.cons (LeV.refl (ii v2.snd)) (.cons (LeV.undef (AV.sl (5:Nat) (List.map Qd x6))) .nil))))) (.refl _))))))
 (kIxR (l:=x3.fArgs) (k:=x7) XD fun v4=>(kCb (Vc v4) (kM0 (alts:=KG (x0,x3) ()) (Q43 x3 x4 x6 (wr (x7+(1:Int)))))
 (kA (q:=(x6.length+(1:Nat))*(40:Nat)≤(140737488355328:Nat)∧x6.length+(1:Nat)≤(9223372036854775807:Nat)) (sh:=Qd) (l:=x6) (kO (sh:=Qd) (x6++[v2.fst]) (mA (sh:=Qd) x6 v2.fst) (nA x6 v2.fst) fun v6=>(kM0 (alts:=KG (x0,x3) ()) (Q43 x3 x4 v6 (wr (x7+(1:Int))))))))))))
 (kT (nM (sh:=Qd) x6) (kX (alts:=KG (x0,x3) ()) (.inl (x4,x6)) (.here _ rfl (.refl _) (.refl _)))))) h))
theorem AF(x0:Qi)(x1:Q0)(r:(Q8×Int))(h:KN x0 x1=some r):PU 129 [Qw x0,Q2 x1] (Ql r):=(Sy x0).1 x1 r h
def Kt(s:((List Qt)×Qi×Q0))(u:List Q6)(o:Q8 ⊕ (Q8×Int)):List Alt:=[⟨fun(x:Q8)=>(Sum.inl x:Q8 ⊕ (Q8×Int))=o,.exit 0,fun x=>[.ptr 0 0 0,.ptr 1 0 0,.ptr 2 0 0,.undef],fun x=>[.cells 0 (Qw s.2.1).cells,.cells 0 (Q2 s.2.2).cells,.cells 0 (Qd x).cells]⟩,⟨fun(x:(Q8×Int))=>(Sum.inr x:Q8 ⊕ (Q8×Int))=o,.ret,fun x=>[.ptr 0 0 0,.ptr 1 0 0,.ptr 2 0 0,ii x.2],fun x=>[.cells 0 (Qw s.2.1).cells,.cells 0 (Q2 s.2.2).cells,.cells 0 (Qd x.1).cells]⟩]
def X0(x1:List Qt)(x3:Qi)(x6:Q8)(x9:List Q6)(a3:Int):Option (Q8 ⊕ (Q8×Int)):=
 some (List.length x9:Int)>>=fun v0=>
 if a3<v0 then
 Option.map Q6.f (ix x9 a3)>>=fun v1=>
 CY x3 x1 v1>>=fun v2=>
 if v2 !=(0:Int) then
 some ((Q8.mk (0:Int) (0:Int) (0:Int) (0:Int) (0:Int)))>>=fun v3=>
 some (.inr (v3,v2))
 else
 X0 x1 x3 x6 x9 (wr (a3+(1:Int)))
 else
 some (.inl x6)
 partial_fixpoint
theorem IA(x1:List Qt)(x3:Qi)(x5:Q0)(x6:Q8)(x9:List Q6)(a3:Int)(o:Q8 ⊕ (Q8×Int))(h:X0 x1 x3 x6 x9 a3=some o):LO 105 6 42 [1,3,5,6,9,10] [.sl 2 (List.map Qs x1),.ptr 0 0 0,.ptr 1 0 0,.ptr 2 0 0,.sl 13 (List.map Qo x9),ii a3] [.cells 0 (Qw x3).cells,.cells 0 (Q2 x5).cells,.cells 0 (Qd x6).cells] [3,5,6,7] (Kt (x1,x3,x5) x9 o):=
 X0.partial_correctness x1 x3 x6 x9 (fun a3 o=>∀(x5:Q0),LO 105 6 42 [1,3,5,6,9,10] [.sl 2 (List.map Qs x1),.ptr 0 0 0,.ptr 1 0 0,.ptr 2 0 0,.sl 13 (List.map Qo x9),ii a3] [.cells 0 (Qw x3).cells,.cells 0 (Q2 x5).cells,.cells 0 (Qd x6).cells] [3,5,6,7] (Kt (x1,x3,x5) x9 o))
 (fun X0 Q41 a3 o h x5=>
 Lp2 (hs:=[(22,.n eI 22 none),(23,.split),(30,.e Q2),(32,.c eI),(34,.split),(35,.n Qd 35 none)]) (kb:=[kk 3,kk 5,kk 6]) (kbx:=[kk 3,kk 5,kk 6]) ((kN _ (mLen (sh:=Qo) x9) fun v0=>(kIfD (p:=a3<v0) (kIxR (l:=x9) (k:=a3) XD fun v1=>(kC (sh:=eI) (AJ x3 x1 v1) fun v2=>(kIf (c:=v2 !=(0:Int)) (kW (sh:=Qd) (Q8.mk (0:Int) (0:Int) (0:Int) (0:Int) (0:Int)) lr fun v3=>(kX (alts:=Kt (x1,x3,x5) x9) (.inr (v3,v2)) (.next (.here _ rfl (.refl _) (.refl _)))))
 (kM0 (alts:=Kt (x1,x3,x5) x9) (fun y hy=>Q41 (wr (a3+(1:Int))) y hy x5)))))
 (kX (alts:=Kt (x1,x3,x5) x9) (.inl x6) (.here _ rfl (.refl _) (.refl _))))) h)) a3 o h x5
def Jg(x0:Qi)(x1:List Qt)(x2:Q0):Option (Q8×Int):=
 Gh x2>>=fun v0=>
 if v0 !=(0:Int) then
 some ((Q8.mk (0:Int) (0:Int) (0:Int) (0:Int) (0:Int)))>>=fun v1=>
 some (v1,v0)
 else
 JG x2>>=fun v2=>
 some v2>>=fun v3=>
 X0 x1 x0 (Q8.mk (0:Int) (0:Int) (0:Int) (0:Int) (0:Int)) v2 (0:Int)>>=fun v4=>(match v4 with
 | (.inl v5)=>
 KN x0 x2>>=fun v6=>
 some (v6.fst,v6.snd)
 | (.inr v7)=>
 some (v7.fst,v7.snd))
theorem W4(x0:Qi)(x1:List Qt)(x2:Q0)(r:(Q8×Int))(h:Jg x0 x1 x2=some r):PU 105 [Qw x0,Ux x1,Q2 x2] (Ql r):=
 Pu2 (hs:=[(13,.c eI),(15,.split),(16,.n Qd 16 none),(19,.c Yw),(39,.c Ql),(3000007,.l [] [1,3,5,6,9,10] [kk 3,kk 5,kk 6] [3,5,6,7] [kk 3,kk 5,kk 6] (Kt (x1,x0,x2)))]) ((kC (sh:=eI) (Ex x2) fun v0=>(kIf (c:=v0 !=(0:Int)) (kW (sh:=Qd) (Q8.mk (0:Int) (0:Int) (0:Int) (0:Int) (0:Int)) lr fun v1=>(kEr (enc:=Ql) (v1,v0)))
 (kC (sh:=Yw) (Pt x2) fun v2=>(kL2 v2 (hL:=(IA x1 x0 x2 (Q8.mk (0:Int) (0:Int) (0:Int) (0:Int) (0:Int)) v2 (0:Int))) (hA:=fun v3 v5=>(kC (sh:=Ql) (AF x0 x2) fun v6=>(kEr (enc:=Ql) (v6.fst,v6.snd))))
 (hB:=fun v3 v7=>(kEr (enc:=Ql) (v7.fst,v7.snd))))))) h)
def Y6(s:((List Qt)×Qi×Qq))(u:Qc)(o:Bool):List Alt:=jb o (fun b=>[.sl 2 (List.map Qs (s.1)),.ptr 0 0 0,.ptr 1 0 0,.ptr 2 0 0,.bool b]) [.cells 0 (Qw (s.2.1)).cells,.cells 0 (Qv (s.2.2)).cells,.cells 0 (Q7 u).cells]
def K3(s:Unit)(u:Int)(o:Bool):List Alt:=jb o (fun b=>[ii u,.bool b]) []
def Cg(x0:Qi)(x1:List Qt)(x2:Qq):Option Int:=
 some ((Ka.mk (3:Int) x2.fName (gVal.mk (0:Int) (0:Int)) (Q8.mk (0:Int) (0:Int) (0:Int) (0:Int) (0:Int)) (gLin.mk (0:Int) []) x2.fIdx []:Q0))>>=fun v0=>
 Jg x0 x1 v0>>=fun v1=>
 if v1.snd !=(0:Int) then
 some v1.snd
 else
 Ku x0 x2.fName>>=fun v2=>
 some v2.fst>>=fun v3=>
 (if v2.fst.fUse==(1:Int) then
 some true
 else
 if x2.fOp==(3:Int) then
 if x2.fFold< (1:Int) then
 some true
 else
 if(4:Int)<x2.fFold then
 some true
 else
 some false
 else
 some false)>>=fun v4=>if v4 then
 some (1:Int)
 else
 Jg x0 x1 x2.fExpr>>=fun v7=>
 some v7.snd>>=fun v8=>
 (if v7.snd==(0:Int) then
 Xi x2.fExpr>>=fun a6=>if a6 then
 some true
 else
 if !(v7.fst.fKind==v3.fType.fKind&& (v7.fst.fBits==v3.fType.fBits&& (v7.fst.fFrac==v3.fType.fFrac&& (v7.fst.fRound==v3.fType.fRound&& (v7.fst.fOver==v3.fType.fOver&&true))))) then
 some true
 else
 some false
 else
 some false)>>=fun v9=>if v9 then
 some (10:Int)
 else
 some v8
theorem ST(x0:Qi)(x1:List Qt)(x2:Qq)(r:Int)(h:Cg x0 x1 x2=some r):PU 107 [Qw x0,Ux x1,Qv x2] (eI r):=
 Pu2 (hs:=[(20,.n Q2 20 none),(21,.c Ql),(25,.split),(31,.c Qz),(36,.split),(40,.split),(44,.split),(48,.split),(57,.c Ql),(61,.split),(65,.cb),(70,.split),(5000005,.l [] [] [] [1,3,5,9,51] [kk 3,kk 5,kk 9] (Y6 (x1,x0,x2))),(5000008,.l [] [] [] [12,72] [] (K3 ()))]) ((kW (sh:=Q2) (Ka.mk (3:Int) x2.fName (gVal.mk (0:Int) (0:Int)) (Q8.mk (0:Int) (0:Int) (0:Int) (0:Int) (0:Int)) (gLin.mk (0:Int) []) x2.fIdx []:Q0) (LeV.agg (.cons (LeV.refl (ii (3:Int))) (.cons (LeV.refl (AV.str x2.fName)) (.cons (LeV.refl (ii (0:Int))) (.cons (LeV.refl (ii (0:Int))) (.cons (LeV.refl (ii (0:Int))) (.cons (LeV.refl (ii (0:Int))) (.cons (LeV.refl (ii (0:Int))) (.cons (LeV.refl (ii (0:Int))) (.cons (LeV.refl (ii (0:Int))) (.cons (LeV.refl (ii (0:Int))) (.cons (LeV.nil 2) (.cons (LeV.refl (AV.sl (4:Nat) (List.map Q4 x2.fIdx))) (.cons (LeV.nil 13) .nil)))))))))))))) fun v0=>(kC (sh:=Ql) (W4 x0 x1 v0) fun v1=>(kIf (c:=v1.snd !=(0:Int)) (kEr (enc:=eI) v1.snd)
 (kC (sh:=Qz) (G0 x0 x2.fName) fun v2=>(kJb (id:=5000005) v2.fst (fun v3 a4 v4=>(kIf (c:=v2.fst.fUse==(1:Int)) (kXj (alts:=Y6 (x1,x0,x2)) a4 true (.here () rfl (.refl _) (.refl _)))
 (kIf (c:=x2.fOp==(3:Int)) (kIfD (p:=x2.fFold< (1:Int)) (kXj (alts:=Y6 (x1,x0,x2)) a4 true (.here () rfl (.refl _) (.refl _)))
 (kIfD (p:=(4:Int)<x2.fFold) (kXj (alts:=Y6 (x1,x0,x2)) a4 true (.here () rfl (.refl _) (.refl _)))
 (kXj (alts:=Y6 (x1,x0,x2)) a4 false (.next (.here () rfl (.refl _) (.refl _))))))
 (kXj (alts:=Y6 (x1,x0,x2)) a4 false (.next (.here () rfl (.refl _) (.refl _)))))))
 (fun v3=>(kEr (enc:=eI) (1:Int)))
 (fun v3=>(kC (sh:=Ql) (W4 x0 x1 x2.fExpr) fun v7=>(kJb (id:=5000008) v7.snd (fun v8 a7 v9=>(kIf (c:=v7.snd==(0:Int)) (kCb (Vc x2.fExpr) (kXj (alts:=K3 ()) a7 true (.here () rfl (.refl _) (.refl _)))
 (kIf (c:= !(v7.fst.fKind==v3.fType.fKind&& (v7.fst.fBits==v3.fType.fBits&& (v7.fst.fFrac==v3.fType.fFrac&& (v7.fst.fRound==v3.fType.fRound&& (v7.fst.fOver==v3.fType.fOver&&true)))))) (kXj (alts:=K3 ()) a7 true (.here () rfl (.refl _) (.refl _)))
 (kXj (alts:=K3 ()) a7 false (.next (.here () rfl (.refl _) (.refl _))))))
 (kXj (alts:=K3 ()) a7 false (.next (.here () rfl (.refl _) (.refl _))))))
 (fun v8=>(kEr (enc:=eI) (10:Int)))
 (fun v8=>(kEr (enc:=eI) v8)))))))))) h)
def Jv(s:Qq)(u:Unit)(o:Bool):List Alt:=jb o (fun b=>[.ptr 0 0 0,.bool b]) [.cells 0 (Qv s).cells]
def YI(s:Unit)(u:Unit)(o:Bool):List Alt:=jb o (fun b=>[.bool b]) []
def Jw(s:Unit)(u:Int)(o:Bool):List Alt:=jb o (fun b=>[ii u,.bool b]) []
def WQ(x0:Qi)(x1:List Qt)(x2:List Str)(x3:Qq):Option Int:=
 Cf x3>>=fun v0=>if v0 then
 if x3.fOp==(1:Int) then
 Ku x0 x3.fName>>=fun v1=>
 JE x3.fName>>=fun v2=>if v2 then
 some ()>>=fun v3=>
 (if v1.snd then
 some true
 else
 Gd x2 x3.fName>>=fun v5=>if v5 then
 some true
 else
 some false)>>=fun v4=>if v4 then
 some (8:Int)
 else
 some ()>>=fun v8=>
 (if x3.fMany< (1:Int) then
 some true
 else
 if(65536:Int)<x3.fMany then
 some true
 else
 if x3.fMark< (0:Int) then
 some true
 else
 if(3:Int)<x3.fMark then
 some true
 else
 some false)>>=fun v9=>if v9 then
 some (1:Int)
 else
 some (0:Int)
 else
 some (7:Int)
 else
 if x3.fOp==(4:Int) then
 Jg x0 x1 x3.fExpr>>=fun a4=>
 some a4.snd>>=fun a5=>
 (if a4.snd==(0:Int) then
 Xi x3.fExpr>>=fun a7=>if a7 then
 some false
 else
 some true
 else
 some false)>>=fun a6=>if a6 then
 some (10:Int)
 else
 some a5
 else
 Cg x0 x1 x3>>=fun a8=>
 some a8
 else
 some (5:Int)
theorem Pv(x0:Qi)(x1:List Qt)(x2:List Str)(x3:Qq)(r:Int)(h:WQ x0 x1 x2 x3=some r):PU 78 [Qw x0,Ux x1,eLS x2,Qv x3] (eI r):=
 Pu2 (hs:=[(14,.cb),(19,.split),(24,.c Qz),(30,.cb),(33,.split),(38,.cb),(43,.split),(47,.split),(52,.split),(57,.split),(60,.split),(66,.c Ql),(70,.split),(74,.cb),(81,.c eI),(5000008,.l [] [] [] [7,32] [kk 7] (Jv x3)),(5000010,.l [] [] [] [40] [] (YI ())),(5000015,.l [] [] [] [12,76] [] (Jw ()))]) ((kCb (SS x3) (kIf (c:=x3.fOp==(1:Int)) (kC (sh:=Qz) (G0 x0 x3.fName) fun v1=>(kCb (DQ x3.fName) (kJb (id:=5000008) () (fun v3 a6 v4=>(kIf (c:=v1.snd) (kXj (alts:=Jv x3) a6 true (.here () rfl (.refl _) (.refl _)))
 (kCb (R4 x2 x3.fName) (kXj (alts:=Jv x3) a6 true (.here () rfl (.refl _) (.refl _)))
 (kXj (alts:=Jv x3) a6 false (.next (.here () rfl (.refl _) (.refl _)))))))
 (fun v3=>(kEr (enc:=eI) (8:Int)))
 (fun v3=>(kJb (id:=5000010) () (fun v8 a5 v9=>(kIfD (p:=x3.fMany< (1:Int)) (kXj (alts:=YI ()) a5 true (.here () rfl (.refl _) (.refl _)))
 (kIfD (p:=(65536:Int)<x3.fMany) (kXj (alts:=YI ()) a5 true (.here () rfl (.refl _) (.refl _)))
 (kIfD (p:=x3.fMark< (0:Int)) (kXj (alts:=YI ()) a5 true (.here () rfl (.refl _) (.refl _)))
 (kIfD (p:=(3:Int)<x3.fMark) (kXj (alts:=YI ()) a5 true (.here () rfl (.refl _) (.refl _)))
 (kXj (alts:=YI ()) a5 false (.next (.here () rfl (.refl _) (.refl _)))))))))
 (fun v8=>(kEr (enc:=eI) (1:Int)))
 (fun v8=>(kEr (enc:=eI) (0:Int))))))
 (kEr (enc:=eI) (7:Int))))
 (kIf (c:=x3.fOp==(4:Int)) (kC (sh:=Ql) (W4 x0 x1 x3.fExpr) fun a8=>(kJb (id:=5000015) a8.snd (fun a7 a4 ag=>(kIf (c:=a8.snd==(0:Int)) (kCb (Vc x3.fExpr) (kXj (alts:=Jw ()) a4 false (.next (.here () rfl (.refl _) (.refl _))))
 (kXj (alts:=Jw ()) a4 true (.here () rfl (.refl _) (.refl _))))
 (kXj (alts:=Jw ()) a4 false (.next (.here () rfl (.refl _) (.refl _))))))
 (fun a7=>(kEr (enc:=eI) (10:Int)))
 (fun a7=>(kEr (enc:=eI) a7))))
 (kC (sh:=eI) (ST x0 x1 x3) fun ab=>(kEr (enc:=eI) ab))))
 (kEr (enc:=eI) (5:Int))) h)
def KH(s:((List Qt)× (List Qb)× (List Int)×Qi))(u:Unit)(o:((List Str)×QC) ⊕ QC):List Alt:=[⟨fun(x:((List Str)×QC))=>(Sum.inl x:((List Str)×QC) ⊕ QC)=o,.exit 0,fun x=>[.sl 1 (List.map eS x.1),.ptr 0 0 0],fun x=>[.cells 0 (Zf x.2).cells]⟩,⟨fun(x:QC)=>(Sum.inr x:((List Str)×QC) ⊕ QC)=o,.ret,fun x=>[.undef,.ptr 0 0 0],fun x=>[.cells 0 (Zf x).cells]⟩]
def UT(s:((List Qt)× (List Qb)× (List Int)×Qi))(u:(QC×Int× (List Int)))(o:((List Str)× (List Qt))):List Alt:=[⟨fun(x:((List Str)× (List Qt)))=>x=o,.normal,fun x=>[.sl 2 (List.map Qs (s.1)),.sl 1 (List.map eS (x.1)),.sl 20 (List.map Qg (s.2.1)),.sl 1 (List.map eI (s.2.2.1)),.ptr 0 0 0,.ptr 1 0 0,ii (u.2.1),.sl 1 (List.map eI (u.2.2)),.sl 2 (List.map Qs (x.2))],fun x=>[.cells 0 (Qw (s.2.2.2)).cells,.cells 0 (Zf (u.1)).cells]⟩]
mutual
def KO(x0:Qi)(x1:List Qt)(x2:List Str)(x3:List Qb)(x4:List Int):Option QC:=
 some ()>>=fun v0=>
 Ym x1 x2 x3 x4 x0 (QC.mk [] [] (0:Int)) (0:Int)>>=fun v1=>(match v1 with
 | (.inl v2)=>
 some ((QC.mk v2.fst [] (0:Int)))>>=fun v3=>
 some v3
 | (.inr v4)=>
 some v4)
 partial_fixpoint
def Ym(x1:List Qt)(x2:List Str)(x3:List Qb)(x4:List Int)(x5:Qi)(ab:QC)(a3:Int):Option (((List Str)×QC) ⊕ QC):=
 some (List.length x3:Int)>>=fun v0=>
 if a3<v0 then
 if(0:Nat)=(0:Nat)∧((0:Nat)+(List.map eI x4).length)*(8:Nat)≤(140737488355328:Nat)∧(0:Nat)+(List.map eI x4).length≤(9223372036854775807:Nat) then
 some ([]++x4)>>=fun v1=>
 if(v1.length+(1:Nat))*(8:Nat)≤(140737488355328:Nat)∧v1.length+(1:Nat)≤(9223372036854775807:Nat) then
 some (v1++[a3])>>=fun v2=>
 Option.map Qb.f (ix x3 a3)>>=fun v3=>
 WQ x5 x1 x2 v3>>=fun v4=>
 if v4 !=(0:Int) then
 some ((QC.mk [] v2 v4))>>=fun v5=>
 some (.inr v5)
 else
 some (ab,a3,v2)>>=fun v6=>
 (Option.map Qb.f (ix x3 a3)>>=fun v8=>
 if v8.fOp==(1:Int) then
 if(0:Nat)=(0:Nat)∧((0:Nat)+(List.map eS x2).length)*(16:Nat)≤(140737488355328:Nat)∧(0:Nat)+(List.map eS x2).length≤(9223372036854775807:Nat) then
 Option.map Qb.f (ix x3 a3)>>=fun v9=>
 if(0:Nat)+(List.map eS x2).length=([]++List.map eS x2).length∧((0:Nat)+(List.map eS x2).length+(1:Nat))*(16:Nat)≤(140737488355328:Nat)∧(0:Nat)+(List.map eS x2).length+(1:Nat)≤(9223372036854775807:Nat) then
 some (([]++x2)++[v9.fName])>>=fun af=>
 if(0:Nat)=(0:Nat)∧((0:Nat)+(List.map Qs x1).length)*(24:Nat)≤(140737488355328:Nat)∧(0:Nat)+(List.map Qs x1).length≤(9223372036854775807:Nat) then
 Option.map Qb.f (ix x3 a3)>>=fun a8=>
 Option.map Qb.f (ix x3 a3)>>=fun a9=>
 some ((Qt.mk a8.fName a9.fMany))>>=fun ao=>
 if(0:Nat)+(List.map Qs x1).length=([]++List.map Qs x1).length∧((0:Nat)+(List.map Qs x1).length+(1:Nat))*(24:Nat)≤(140737488355328:Nat)∧(0:Nat)+(List.map Qs x1).length+(1:Nat)≤(9223372036854775807:Nat) then
 some (([]++x1)++[(Qt.mk a8.fName a9.fMany)])>>=fun ag=>
 some (af,ag)
 else none
 else none
 else none
 else none
 else
 some (x2,x1))>>=fun aa=>
 Option.map Qb.f (ix x3 v6.snd.fst)>>=fun ah=>
 KO x5 aa.snd aa.fst ah.fBody v6.snd.snd>>=fun a7=>
 if a7.fE !=(0:Int) then
 some (.inr a7)
 else
 Ym x1 a7.fUsed x3 x4 x5 v6.fst (wr (v6.snd.fst+(1:Int)))
 else none
 else none
 else
 some (.inl (x2,ab))
 partial_fixpoint
end
theorem SA(x0:Qi):(∀(x1:List Qt) (x2:List Str) (x3:List Qb) (x4:List Int) (r:QC),KO x0 x1 x2 x3 x4=some r→PU 56 [Qw x0,Ux x1,eLS x2,Zx x3,eLI x4] (Zf r))∧(∀(x1:List Qt) (x2:List Str) (x3:List Qb) (x4:List Int) (a9:QC) (a4:Int) (o:((List Str)×QC) ⊕ QC),Ym x1 x2 x3 x4 x0 a9 a4=some o→LO 56 2 92 [1,2,3,4,5,10,11] [.sl 2 (List.map Qs x1),.sl 1 (List.map eS x2),.sl 20 (List.map Qg x3),.sl 1 (List.map eI x4),.ptr 0 0 0,.ptr 1 0 0,ii a4] [.cells 0 (Qw x0).cells,.cells 0 (Zf a9).cells] [2,10] (KH (x1,x3,x4,x0) () o)):=
 KO.mutual_partial_correctness x0 (fun x1 x2 x3 x4 r=>PU 56 [Qw x0,Ux x1,eLS x2,Zx x3,eLI x4] (Zf r)) (fun x1 x2 x3 x4 a9 a4 o=>LO 56 2 92 [1,2,3,4,5,10,11] [.sl 2 (List.map Qs x1),.sl 1 (List.map eS x2),.sl 20 (List.map Qg x3),.sl 1 (List.map eI x4),.ptr 0 0 0,.ptr 1 0 0,ii a4] [.cells 0 (Qw x0).cells,.cells 0 (Zf a9).cells] [2,10] (KH (x1,x3,x4,x0) () o))
 (fun Ym Q45 x1 x2 x3 x4 r h=>
 Pu2 (hs:=[(91,.n Zf 91 none),(3000003,.l [] [1,2,3,4,5,10,11] [{slot:=2,fz:=true},kk 5,kk 10] [2,10] [{slot:=2,fz:=true},kk 10] (KH (x1,x3,x4,x0)))]) ((kL2 () (hL:=(fun y hy=>Ys.le (.cons (LeV.refl (AV.sl (2:Nat) (List.map Qs x1))) (.cons (LeV.refl (AV.sl (1:Nat) (List.map eS x2))) (.cons (LeV.refl (AV.sl (20:Nat) (List.map Qg x3))) (.cons (LeV.refl (AV.sl (1:Nat) (List.map eI x4))) (.cons (LeV.refl (AV.ptr (0:Nat) (0:Nat) (0:Nat))) (.cons (LeV.refl (AV.ptr (1:Nat) (0:Nat) (0:Nat))) (.cons (LeV.refl (ii (0:Int))) .nil))))))) (.cons (LeB.refl (Box.cells (0:Nat) [AV.sl (8:Nat) (List.map Q7 x0.fBufs),AV.sl (20:Nat) (List.map Qg x0.fBody)])) (.cons (LeB.cells (0:Nat) (.cons (LeV.nil 1) (.cons (LeV.nil 1) (.cons (LeV.refl (ii (0:Int))) .nil)))) .nil)) (Q45 x1 x2 x3 x4 (QC.mk [] [] (0:Int)) (0:Int) y hy))) (hA:=fun v0 v2=>(kW (sh:=Zf) (QC.mk v2.fst [] (0:Int)) (LeV.agg (.cons (LeV.refl (AV.sl (1:Nat) (List.map eS v2.fst))) (.cons (LeV.nil 1) (.cons (LeV.refl (ii (0:Int))) .nil)))) fun v3=>(kEr (enc:=Zf) v3)))
 (hB:=fun v0 v4=>(kEr (enc:=Zf) v4))) h))
 (fun KO Ym Q44 Q45 x1 x2 x3 x4 a9 a4 o h=>
 Lp2 (hs:=[(18,.n eI 18 none),(19,.split),(24,.z [{slot:=22,own:=1}] (some (.n eI 24 (some .a)))),(27,.z [{slot:=24,own:=1}] (some (.n eI 27 (some .a)))),(12,.z [{slot:=27,fz:=true}] none),(33,.e Qv),(35,.c eI),(37,.split),(40,.n Zf 40 none),(44,.e Qv),(47,.split),(50,.a),(53,.e Qv),(57,.z [{slot:=50,own:=1}] (some (.n eS 57 (some .a)))),(2,.z [{slot:=57,fz:=true}] none),(60,.a),(63,.e Qv),(68,.e Qv),(71,.n Qs 71 none),(73,.z [{slot:=60,own:=2}] (some (.n Qs 73 (some .a)))),(14,.z [{slot:=73,fz:=true}] none),(79,.e Qv),(83,.c Zf),(86,.split),(6000011,.l [] [] [] [1,2,3,4,5,10,11,12,14] [{slot:=2,fz:=true},kk 5,kk 10,{slot:=12,fz:=true},{slot:=14,fz:=true}] (UT (x1,x3,x4,x0)))]) (kb:=[{slot:=2,fz:=true},kk 5,kk 10]) (kbx:=[{slot:=2,fz:=true},kk 10]) ((kN _ (mLen (sh:=Qg) x3) fun v0=>(kIfD (p:=a4<v0) (kG (p:=(0:Nat)=(0:Nat)∧((0:Nat)+(List.map eI x4).length)*(8:Nat)≤(140737488355328:Nat)∧(0:Nat)+(List.map eI x4).length≤(9223372036854775807:Nat)) (kO (sh:=eI) ([]++x4) (mAA (sh:=eI) [] x4) (nAA (sh:=eI) [] x4) fun v1=>(kA (q:=(v1.length+(1:Nat))*(8:Nat)≤(140737488355328:Nat)∧v1.length+(1:Nat)≤(9223372036854775807:Nat)) (sh:=eI) (l:=v1) (kO (sh:=eI) (v1++[a4]) (mA (sh:=eI) v1 a4) (nA v1 a4) fun v2=>(kT (nM (sh:=eI) v2) (kIxR (l:=x3) (k:=a4) YD fun v3=>(kC (sh:=eI) (Pv x0 x1 x2 v3) fun v4=>(kIf (c:=v4 !=(0:Int)) (kW (sh:=Zf) (QC.mk [] v2 v4) (LeV.agg (.cons (LeV.nil 1) (.cons (LeV.refl (AV.sl (1:Nat) (List.map eI v2))) (.cons (LeV.refl (ii v4)) .nil)))) fun v5=>(kX (alts:=KH (x1,x3,x4,x0) ()) (.inr v5) (.next (.here _ rfl (.cons (LeV.undef (AV.sl (1:Nat) (List.map eS x2))) (.cons (LeV.refl (AV.ptr (0:Nat) (0:Nat) (0:Nat))) .nil)) (.refl _)))))
 (kJ1 (id:=6000011) (a9,a4,v2) (fun v6 ag v7=>(kIxR (l:=x3) (k:=a4) YD fun v8=>(kIf (c:=v8.fOp==(1:Int)) (kG (p:=(0:Nat)=(0:Nat)∧((0:Nat)+(List.map eS x2).length)*(16:Nat)≤(140737488355328:Nat)∧(0:Nat)+(List.map eS x2).length≤(9223372036854775807:Nat)) (kIxR (l:=x3) (k:=a4) YD fun v9=>(kG (p:=(0:Nat)+(List.map eS x2).length=([]++List.map eS x2).length∧((0:Nat)+(List.map eS x2).length+(1:Nat))*(16:Nat)≤(140737488355328:Nat)∧(0:Nat)+(List.map eS x2).length+(1:Nat)≤(9223372036854775807:Nat)) (kO (sh:=eS) (([]++x2)++[v9.fName]) (mAp (sh:=eS) (mAA (sh:=eS) [] x2) (rfl:List.map eS [v9.fName]=List.map eS [v9.fName])) (by simp:List.length (([]++x2)++[v9.fName])=(0:Nat)+(List.map eS x2).length+(1:Nat)) fun ah=>(kT (nM (sh:=eS) ah) (kG (p:=(0:Nat)=(0:Nat)∧((0:Nat)+(List.map Qs x1).length)*(24:Nat)≤(140737488355328:Nat)∧(0:Nat)+(List.map Qs x1).length≤(9223372036854775807:Nat)) (kIxR (l:=x3) (k:=a4) YD fun aa=>(kIxR (l:=x3) (k:=a4) YD fun ab=>(kW (sh:=Qs) (Qt.mk aa.fName ab.fMany) lr fun au=>(kG (p:=(0:Nat)+(List.map Qs x1).length=([]++List.map Qs x1).length∧((0:Nat)+(List.map Qs x1).length+(1:Nat))*(24:Nat)≤(140737488355328:Nat)∧(0:Nat)+(List.map Qs x1).length+(1:Nat)≤(9223372036854775807:Nat)) (kO (sh:=Qs) (([]++x1)++[(Qt.mk aa.fName ab.fMany)]) (mAp (sh:=Qs) (mAA (sh:=Qs) [] x1) (rfl:List.map Qs [(Qt.mk aa.fName ab.fMany)]=List.map Qs [(Qt.mk aa.fName ab.fMany)])) (by simp:List.length (([]++x1)++[(Qt.mk aa.fName ab.fMany)])=(0:Nat)+(List.map Qs x1).length+(1:Nat)) fun ai=>(kT (nM (sh:=Qs) ai) (kXj (alts:=UT (x1,x3,x4,x0)) ag (ah,ai) (.here _ rfl (.refl _) (.refl _)))))))))))))))
 (kXj (alts:=UT (x1,x3,x4,x0)) ag (x2,x1) (.here _ rfl (.refl _) (.refl _))))))
 (fun v6 ac=>(kIxR (l:=x3) (k:=v6.snd.fst) YD fun ap=>(kC (sh:=Zf) (Q44 ac.snd ac.fst ap.fBody v6.snd.snd) fun ad=>(kIf (c:=ad.fE !=(0:Int)) (kX (alts:=KH (x1,x3,x4,x0) ()) (.inr ad) (.next (.here _ rfl (.cons (LeV.undef (AV.sl (1:Nat) (List.map eS ac.fst))) (.cons (LeV.refl (AV.ptr (0:Nat) (0:Nat) (0:Nat))) .nil)) (.refl _))))
 (kM0 (alts:=KH (x1,x3,x4,x0) ()) (Q45 x1 ad.fUsed x3 x4 v6.fst (wr (v6.snd.fst+(1:Int))))))))))))))))))
 (kX (alts:=KH (x1,x3,x4,x0) ()) (.inl (x2,a9)) (.here _ rfl (.refl _) (.refl _))))) h))
theorem AG(x0:Qi)(x1:List Qt)(x2:List Str)(x3:List Qb)(x4:List Int)(r:QC)(h:KO x0 x1 x2 x3 x4=some r):PU 56 [Qw x0,Ux x1,eLS x2,Zx x3,eLI x4] (Zf r):=(SA x0).1 x1 x2 x3 x4 r h
def Kz(s:Qi)(u:Unit)(o:Bool):List Alt:=jb o (fun b=>[.ptr 0 0 0,.bool b]) [.cells 0 (Qw s).cells]
def Gi(x0:Qi):Option (List Int×Int):=
 V1 x0.fBody (41:Int)>>=fun v0=>
 if(40:Int)<v0 then
 some ([],(13:Int))
 else
 some ()>>=fun v1=>
 (VT x0.fBody (2000:Int)>>=fun v3=>
 if(2000:Int)<v3 then
 some true
 else
 some (List.length x0.fBufs:Int)>>=fun v4=>
 if(128:Int)<v4 then
 some true
 else
 some false)>>=fun v2=>if v2 then
 some ([],(2:Int))
 else
 CV x0>>=fun v7=>
 if v7 !=(0:Int) then
 some ([],v7)
 else
 KO x0 [] [] x0.fBody []>>=fun v8=>
 some (v8.fWay,v8.fE)
theorem EB(x0:Qi)(r:(List Int×Int))(h:Gi x0=some r):PU 25 [Qw x0] (Vq r):=
 Pu2 (hs:=[(8,.c eI),(9,.split),(12,.c eI),(13,.split),(17,.n eI 17 none),(18,.split),(21,.c eI),(23,.split),(28,.c Zf),(5000003,.l [] [] [] [1,19] [kk 1] (Kz x0))]) ((kC (sh:=eI) (SR x0.fBody (41:Int)) fun v0=>(kIfD (p:=(40:Int)<v0) (kE (enc:=Vq) ([],(13:Int)) (LeT.tup (.cons (LeT.nil 1) (.cons (LeT.refl (ii (13:Int))) .nil))))
 (kJb (id:=5000003) () (fun v1 a4 v2=>(kC (sh:=eI) (AK x0.fBody (2000:Int)) fun v3=>(kIfD (p:=(2000:Int)<v3) (kXj (alts:=Kz x0) a4 true (.here () rfl (.refl _) (.refl _)))
 (kN _ (mLen (sh:=Q7) x0.fBufs) fun v4=>(kIfD (p:=(128:Int)<v4) (kXj (alts:=Kz x0) a4 true (.here () rfl (.refl _) (.refl _)))
 (kXj (alts:=Kz x0) a4 false (.next (.here () rfl (.refl _) (.refl _)))))))))
 (fun v1=>(kE (enc:=Vq) ([],(2:Int)) (LeT.tup (.cons (LeT.nil 1) (.cons (LeT.refl (ii (2:Int))) .nil)))))
 (fun v1=>(kC (sh:=eI) (AH x0) fun v7=>(kIf (c:=v7 !=(0:Int)) (kE (enc:=Vq) ([],v7) (LeT.tup (.cons (LeT.nil 1) (.cons (LeT.refl (ii v7)) .nil))))
 (kC (sh:=Zf) (fun y hy=>Pu.le (AG x0 [] [] x0.fBody [] y hy) (.cons (LeT.refl (AV.agg [AV.sl (8:Nat) (List.map Q7 x0.fBufs),AV.sl (20:Nat) (List.map Qg x0.fBody)])) (.cons (LeT.nil 2) (.cons (LeT.nil 1) (.cons (LeT.refl (AV.sl (20:Nat) (List.map Qg x0.fBody))) (.cons (LeT.nil 1) .nil))))) (LeT.refl _)) fun v8=>(kEr (enc:=Vq) (v8.fWay,v8.fE))))))))) h)
end Go.Proofs.YtolcgikajjkjgaaGreatDoor
end
section
namespace HY
open Go
section
variable {α β : Type}
theorem bS{a:α}{f:α→Option β}:(some a>>=f)=f a:=rfl
theorem omS{a:α}{f:α→β}:Option.map f (some a)=some (f a):=rfl
theorem Wc{a b:α}:(if(true=true) then a else b)=a:=rfl
theorem Ds{a b:α}:(if(false=true) then a else b)=b:=rfl
end
theorem YE{α:Type}{l p:List α}{x:α}{t:List α}(h:l=p++x::t):ix l p.length=some x:=by
 unfold ix;rw[if_pos (by omega),Int.toNat_natCast,h,List.getElem?_append_right (Nat.le_refl _)];simp
theorem Zn{n:Int}{k:Nat}(h0:0≤n)(h1:n<k)(hk:k≤4611686018427387904):wr (n+1)=n+1:=Z2 (by omega)
theorem Ac{α:Type}{l:List α}{i:Int}(h0:0≤i)(h1:i<l.length):∃x,ix l i=some x∧x∈l:=by
 refine⟨l[i.toNat]'(by omega),?_,List.getElem_mem _⟩
 unfold ix;rw[if_pos h0,List.getElem?_eq_getElem]
end HY
end
section
namespace Go.Proofs.YtolcgikajjkjgaaGreatDoor
open Go HY
set_option linter.unusedVariables false
set_option linter.unusedSimpArgs false
def fits(n:Int):Prop:= -9223372036854775808≤n∧n≤9223372036854775807
def kw:List Str:=[[(115:UInt8),(105:UInt8),(122:UInt8),(101:UInt8)],[(119:UInt8),(104:UInt8),(101:UInt8),(114:UInt8),(101:UInt8)],[(105:UInt8),(110:UInt8)],[(100:UInt8),(101:UInt8),(102:UInt8)],[(111:UInt8),(117:UInt8),(116:UInt8)],[(115:UInt8),(117:UInt8),(109:UInt8)],[(112:UInt8),(114:UInt8),(111:UInt8),(100:UInt8)],[(109:UInt8),(105:UInt8),(110:UInt8)],[(109:UInt8),(97:UInt8),(120:UInt8)],[(115:UInt8),(99:UInt8),(97:UInt8),(110:UInt8)],[(111:UInt8),(118:UInt8),(101:UInt8),(114:UInt8)],[(105:UInt8),(102:UInt8)],[(99:UInt8),(97:UInt8),(115:UInt8),(116:UInt8)],[(102:UInt8),(114:UInt8),(97:UInt8),(99:UInt8)],[(105:UInt8),(110:UInt8),(116:UInt8)],[(102:UInt8),(105:UInt8),(120:UInt8)],[(99:UInt8),(101:UInt8),(105:UInt8),(108:UInt8)],[(102:UInt8),(108:UInt8),(111:UInt8),(111:UInt8),(114:UInt8)],[(122:UInt8),(101:UInt8),(114:UInt8),(111:UInt8)],[(101:UInt8),(118:UInt8),(101:UInt8),(110:UInt8)],[(115:UInt8),(97:UInt8),(116:UInt8)],[(119:UInt8),(114:UInt8),(97:UInt8),(112:UInt8)]]
def low(c:UInt8):Bool:=decide (97≤(c.toNat:Int))&&decide ((c.toNat:Int)≤122)
def tl(c:UInt8):Bool:=low c || (decide (48≤(c.toNat:Int))&&decide ((c.toNat:Int)≤57)) || ((c.toNat:Int)==95)
def nm(s:Str):Bool:=decide (1≤(s.length:Int))&& (decide ((s.length:Int)≤16)&& (!(kw.contains s)&& ((match s with | []=>false | c::_=>low c)&&s.all tl)))
theorem Ig(l:List Str)(s:Str)(hl:l.length≤1048576):Y2 l s 0=some (if l.contains s then .inr true else .inl ()):=by
 refine Rt (F:=fun i=>Y2 l s i) (l:=l) (fun t=>if t.contains s then .inr true else .inl ()) ?_ ?_
 ·show Y2 l s (l.length:Int)=_;rw[Y2,bS,if_neg (by omega)];rfl
 ·intro i x t h0 h1 a3 ih;show Y2 l s i=_;rw[Y2,bS,if_pos (by omega),a3,bS]
  by_cases hx:x=s;·subst hx;simp
  ·rw[if_neg (by simpa using hx),Zn h0 h1 (by omega)]
   rw[ih,List.contains_cons];have:(s==x)=false:=by simpa using fun e=>hx e.symm
   rw[this,Bool.false_or]
theorem Bw(s:Str):Gd kw s=some (kw.contains s):=by
 unfold Gd;rw[bS,Ig kw s (by decide),bS]
 cases kw.contains s<;>rfl
theorem FR:M1=some kw:=rfl
theorem TG(s:Str)(hl:s.length≤1048576):XA s 0=some (if(match s with | []=>true | c::t=>low c&&t.all tl) then .inl () else .inr false):=by
 have loop:∀(t p:Str),s=p++t→p≠[]→XA s p.length=some (if t.all tl then .inl () else .inr false):=by
  intro t
  induction t with
  |nil=>intro p e _;rw[XA,if_neg (by rw[e];simp)];rfl
  |cons c t ih=>
   intro p e hp;have a3:(p.length:Int)< (s.length:Int):=by rw[e];simp;omega
   have h0:0<p.length:=List.length_pos_iff.2 hp;rw[XA,if_pos a3,YE e,bS,bS];have a4:=ih (p++[c]) (by rw[e];simp) (by simp)
   rw[show((p++[c]).length:Int)=(p.length:Int)+1 by simp] at a4
   rw[Zn (by omega) a3 (by omega),List.all_cons,a4]
   unfold tl low;by_cases c1:(97:Int)≤c.toNat<;>by_cases c2:(c.toNat:Int)≤122<;>by_cases c3:(48:Int)≤c.toNat<;>by_cases c4:(c.toNat:Int)≤57<;>by_cases c5:(c.toNat:Int)=95<;>simp[c1,c2,c3,c4,c5,h0,bS]<;>omega
 cases s with
 |nil=>rw[XA,if_neg (by simp)];rfl
 |cons c t=>
  rw[XA,if_pos (by simp<;>omega),show ix (c::t) 0=some c from rfl,bS,bS]
  have:=loop t [c] rfl (by simp)
  rw[show(([c]:Str).length:Int)=0+1 by rfl] at this
  rw[show wr (0+1)=0+1 from rfl,this];unfold low;by_cases c1:(97:Int)≤c.toNat<;>by_cases c2:(c.toNat:Int)≤122<;>simp[c1,c2,bS]
theorem C5(s:Str):JE s=some (nm s):=by
 unfold JE nm;rw[bS];by_cases h1:(s.length:Int)<1;·rw[if_pos h1,bS,if_pos rfl,decide_eq_false (by omega)];rfl
 ·rw[if_neg h1,decide_eq_true (by omega)]
  by_cases h2:16< (s.length:Int);·rw[if_pos h2,bS,if_pos rfl,decide_eq_false (by omega)];rfl
  ·have hl:s.length≤1048576:=by omega
   rw[if_neg h2,FR,bS,Bw,decide_eq_true (by omega)]
   cases hk:kw.contains s with
   |true=>simp only[bS,if_true];rfl
   |false=>
    simp only[bS,Ds];cases s with
    |nil=>simp at h1
    |cons c t=>
     have e2:(low c&& (tl c&&t.all tl))=(low c&&t.all tl):=by
      cases hc:low c;·rfl
      ·have:tl c=true:=by unfold tl;rw[hc];rfl
       rw[this]<;>rfl
     rw[TG (c::t) hl,bS,List.all_cons,e2];show(match(if(low c&&t.all tl)=true then(Sum.inl ():Unit ⊕ Bool) else Sum.inr false) with | .inl v8=>some true | .inr v9=>some v9)=_
     cases(low c&&t.all tl)<;>rfl
theorem TI(s:Str):Di s=some (kw.contains s):=by
 unfold Di;rw[bS];have key:∀(a:Str) (l:List Str) (x:Option Bool),x=some (l.contains s)→(if s==a then some true else x)=some ((a::l).contains s):=fun a l x h=>by
  rw[List.contains_cons];cases e:s==a;·rw[Ds,h];rfl
  ·rfl
 have:∀x:Option Bool,x=some (kw.contains s)→(x>>=fun v1=>if v1 then some true else some false)=some (kw.contains s):=fun x h=>by
  rw[h,bS];cases kw.contains s<;>rfl
 refine this _ ?_;unfold kw
 repeat (first | exact rfl | refine key _ _ _ ?_)
theorem Ip(s:Str)(hl:s.length≤1048576):Zq s s.length 0=some (if s.all tl then .inl () else .inr false):=by
 refine Rt (F:=fun i=>Zq s s.length i) (l:=s) (fun t=>if t.all tl then .inl () else .inr false) ?_ ?_
 ·show Zq s s.length (s.length:Int)=_;rw[Zq,if_neg (by omega)];rfl
 ·intro i c t h0 h1 a3 ih;show Zq s s.length i=_;rw[Zq,if_pos h1,a3,bS,bS,Zn h0 h1 (by omega),List.all_cons,ih]
  unfold tl low;by_cases c1:(97:Int)≤c.toNat<;>by_cases c2:(c.toNat:Int)≤122<;>by_cases c3:(48:Int)≤c.toNat<;>by_cases c4:(c.toNat:Int)≤57<;>by_cases c5:(c.toNat:Int)=95<;>simp[c1,c2,c3,c4,c5,bS,show((c.toNat:Int)<97)=¬((97:Int)≤c.toNat) by simp,show((c.toNat:Int)<48)=¬((48:Int)≤c.toNat) by simp,show((122:Int)<c.toNat)=¬((c.toNat:Int)≤122) by simp,show((57:Int)<c.toNat)=¬((c.toNat:Int)≤57) by simp]<;>omega
theorem EV(s:Str):Gg s=some (nm s):=by
 unfold Gg nm;rw[bS];by_cases h1:(s.length:Int)<1;·rw[if_pos h1,bS,if_pos rfl,decide_eq_false (by omega)];rfl
 ·rw[if_neg h1,decide_eq_true (by omega)]
  by_cases h2:16< (s.length:Int);·rw[if_pos h2,bS,if_pos rfl,decide_eq_false (by omega)];rfl
  ·have hl:s.length≤1048576:=by omega
   rw[if_neg h2,TI,decide_eq_true (by omega)]
   cases hk:kw.contains s with
   |true=>simp only[bS,if_true];rfl
   |false=>
    simp only[bS,Ds];cases s with
    |nil=>simp at h1
    |cons c t=>
     have h3:=Ip (c::t) hl;simp only[show ix (c::t) 0=some c from rfl,bS];unfold low;by_cases c1:(c.toNat:Int)<97;·rw[if_pos c1,bS,if_pos rfl,decide_eq_false (by omega)];rfl
     ·rw[if_neg c1,decide_eq_true (by omega)]
      by_cases c2:(122:Int)<c.toNat;·rw[if_pos c2,bS,if_pos rfl,decide_eq_false (by omega)];rfl
      ·rw[if_neg c2];simp only[bS,Ds];rw[h3,bS,decide_eq_true (show(c.toNat:Int)≤122 by omega)]
       cases(c::t).all tl<;>rfl
def badL:Option Zp→List Zp→Bool
 |_,[]=>false
 |p,m::t=>(!(nm m.fName) || ((m.fBy==0) || (match p with | none=>false | some q=> !(Op.bytesLess q.fName m.fName)))) || badL (some m) t
theorem TN(p:Option Zp)(m:Zp)(t:List Zp):badL p (m::t)=((!(nm m.fName) || ((m.fBy==0) || (match p with | none=>false | some q=> !(Op.bytesLess q.fName m.fName)))) || badL (some m) t):=rfl
def okL(l:gLin):Prop:=fits l.fK∧l.fL.length*24≤140737488351232∧∀m∈l.fL,fits m.fBy
def VH(l:gLin):Bool:= !(badL none l.fL)
theorem E7(l:gLin)(h:okL l):Xm l l.fL l.fL.length 0=some (if badL none l.fL then .inr 1 else .inl ()):=by
 obtain⟨_,hl,hm⟩:=h;have loop:∀(t p:List Zp),l.fL=p++t→Xm l l.fL l.fL.length p.length=some (if badL p.getLast? t then .inr 1 else .inl ()):=by
  intro t
  induction t with
  |nil=>intro p e;rw[Xm,if_neg (by rw[e];simp)];rfl
  |cons c t ih=>
   intro p e;have a4:(p.length:Int)< (l.fL.length:Int):=by rw[e];simp;omega
   rw[Xm,if_pos a4,YE e,bS,bS,EV,Zn (by omega) a4 (by omega)]
   have a3:=ih (p++[c]) (by rw[e];simp)
   rw[show((p++[c]).length:Int)=(p.length:Int)+1 by simp] at a3
   rw[List.getLast?_concat] at a3;rw[TN];cases hn:nm c.fName with
   |false=>rfl
   |true=>
    cases hb:c.fBy==(0:Int) with
    |true=>simp only[bS,if_true];rfl
    |false=>
     rcases List.eq_nil_or_concat p with rfl | ⟨q,y,hq⟩
     ·simp only[bS,if_true,if_false,Bool.false_eq_true];rw[if_neg (by simp)]
      simp only[bS,if_false,Bool.false_eq_true];rw[a3];rfl
     ·rw[List.concat_eq_append] at hq;subst hq;simp only[bS,if_true,if_false,Bool.false_eq_true];have a6:(((q++[y]).length:Nat):Int)=q.length+1:=by simp
      rw[if_pos (by omega),Z2 (by omega)]
      rw[show(((q++[y]).length:Nat):Int) - 1=(q.length:Int) by simp,YE (show l.fL=q++y::(c::t) by rw[e];simp),bS,List.getLast?_concat]
      cases hb2:Op.bytesLess y.fName c.fName with
      |true=>simp only[hb2,Bool.not_true,Bool.or_false,Bool.false_or,bS,if_false,Bool.false_eq_true];rw[a3]
      |false=>simp only[hb2,Bool.not_false,if_true,bS,Bool.or_true,Bool.true_or]
 exact loop l.fL [] rfl
theorem TH(l:gLin)(h:okL l):Dh l=some (if VH l then 0 else 1):=by
 unfold Dh VH;rw[bS,bS,E7 l h,bS];cases badL none l.fL<;>rfl
theorem Ha(l:gLin)(h:okL l):ZY l 0=some (if badL none l.fL then .inr false else .inl ()):=by
 obtain⟨_,hl,hm⟩:=h;have loop:∀(t p:List Zp),l.fL=p++t→ZY l p.length=some (if badL p.getLast? t then .inr false else .inl ()):=by
  intro t
  induction t with
  |nil=>intro p e;rw[ZY,bS,if_neg (by rw[e];simp)];rfl
  |cons c t ih=>
   intro p e;have a4:(p.length:Int)< (l.fL.length:Int):=by rw[e];simp;omega
   have a5:=YE e;rw[ZY,bS,if_pos a4,bS,a5,bS,C5,Zn (by omega) a4 (by omega)]
   have a3:=ih (p++[c]) (by rw[e];simp)
   rw[show((p++[c]).length:Int)=(p.length:Int)+1 by simp] at a3
   rw[List.getLast?_concat] at a3;rw[TN];cases hn:nm c.fName with
   |false=>rfl
   |true=>
    simp only[bS,Wc];cases hb:c.fBy==(0:Int) with
    |true=>simp only[bS,if_true];rfl
    |false=>
     rcases List.eq_nil_or_concat p with rfl | ⟨q,y,hq⟩
     ·simp only[bS,if_true,if_false,Bool.false_eq_true];rw[if_neg (by simp)]
      simp only[bS,if_false,Bool.false_eq_true];rw[a3];rfl
     ·rw[List.concat_eq_append] at hq;subst hq;simp only[bS,if_true,if_false,Bool.false_eq_true];have a7:(((q++[y]).length:Nat):Int)=q.length+1:=by simp
      rw[if_pos (by omega),Z2 (by omega)]
      rw[show(((q++[y]).length:Nat):Int) - 1=(q.length:Int) by simp,YE (show l.fL=q++y::(c::t) by rw[e];simp),bS,List.getLast?_concat]
      cases hb2:Op.bytesLess y.fName c.fName with
      |true=>simp only[hb2,Bool.not_true,Bool.or_false,Bool.false_or,bS,if_false,Bool.false_eq_true];rw[a3]
      |false=>simp only[hb2,Bool.not_false,if_true,bS,Bool.or_true,Bool.true_or]
 exact loop l.fL [] rfl
theorem Wj(l:gLin)(h:okL l):KJ l=some (VH l):=by
 unfold KJ VH;rw[bS,Ha l h,bS];cases badL none l.fL<;>rfl
def okI(x:Qf):Prop:=okL x.fLin∧x.fAt.length*32≤140737488351232∧∀l∈x.fAt,okL l
inductive okE:Q6→Prop
 |mk (x:Q0) (h1:okL x.fLin) (h2:x.fIdx.length*72≤140737488351232) (h3:∀i∈x.fIdx,okI i) (h4:x.fArgs.length*160≤140737488351232) (h5:∀a∈x.fArgs,okE a):okE (.mk x)
inductive okS:Qb→Prop
 |mk (x:Qq) (h1:x.fIdx.length*72≤140737488351232) (h2:∀i∈x.fIdx,okI i) (h3:okE (.mk x.fExpr)) (h4:x.fBody.length*256≤140737488351232) (h5:∀a∈x.fBody,okS a):okS (.mk x)
def okSs(l:List Qb):Prop:=l.length*256≤140737488351232∧∀a∈l,okS a
theorem okE.of{x:Q0}(h:okE (.mk x)):okL x.fLin∧x.fIdx.length*72≤140737488351232∧(∀i∈x.fIdx,okI i)∧x.fArgs.length*160≤140737488351232∧∀a∈x.fArgs,okE a:=by
 cases h with | mk _ h1 h2 h3 h4 h5=>exact⟨h1,h2,h3,h4,h5⟩
theorem okS.of{x:Qq}(h:okS (.mk x)):x.fIdx.length*72≤140737488351232∧(∀i∈x.fIdx,okI i)∧okE (.mk x.fExpr)∧okSs x.fBody:=by
 cases h with | mk _ h1 h2 h3 h4 h5=>exact⟨h1,h2,h3,h4,h5⟩
def V9(n:Int):List Int→Option Int
 | []=>some n
 |v::t=>if v<1∨4096<n*v then none else V9 (n*v) t
theorem Hb{n v:Int}{t:List Int}(h:v<1∨4096<n*v):V9 n (v::t)=none:=by rw[V9,if_pos h]
theorem FY{n v:Int}{t:List Int}(h:¬(v<1∨4096<n*v)):V9 n (v::t)=V9 (n*v) t:=by rw[V9,if_neg h]
theorem Sh:∀ {d:List Int} {n m:Int},1≤n→V9 n d=some m→n≤m∧(n≤4096→m≤4096)∧∀v∈d,1≤v
 | [],n,m,hn,h=>by cases h;exact⟨Int.le_refl _,id,by simp⟩
 |v::t,n,m,hn,h=>by
  simp only[V9] at h;split at h;·cases h
  ·rename_i hc;have hv:1≤v:=by omega
   have a7:n≤n*v:=by
    have:=Int.mul_le_mul_of_nonneg_left hv (show 0≤n by omega);rwa [Int.mul_one] at this
   obtain⟨h1,h2,h3⟩:=Sh (by omega) h
   refine⟨by omega,fun _=>h2 (by omega),fun w hw=> ?_⟩
   rcases List.mem_cons.1 hw with rfl | hw
   ·exact hv
   ·exact h3 w hw
end Go.Proofs.YtolcgikajjkjgaaGreatDoor
end
section
namespace Go.Proofs.YtolcgikajjkjgaaGreatDoor
open Go HY
set_option linter.unusedVariables false
set_option linter.unusedSimpArgs false
def zT:Q8:=⟨0,0,0,0,0⟩
def tyOK(t:Q8):Bool:=if t.fKind=1∨t.fKind=3 then t.fBits==0&& (t.fFrac==0&& (t.fRound==0&&t.fOver==0)) else decide (t.fKind=2∧2≤t.fBits∧t.fBits≤31∧0≤t.fFrac∧t.fFrac≤30∧1≤t.fRound∧t.fRound≤4∧(t.fOver=1∨t.fOver=2))
def DB(d:List Int):Int:=if 6<d.length then 2 else if d.any (fun v=>decide (v<1)) then 1 else if(V9 1 d).isSome then 0 else 2
def vlOK(t:Q8)(v:gVal):Bool:=
 if t.fKind=2 then decide (v.fD=1∧ -(2^ (t.fBits - 1).toNat:Int)≤v.fN∧v.fN< (2^ (t.fBits - 1).toNat:Int))
 else decide (-2147483647≤v.fN∧v.fN≤2147483647∧1≤v.fD∧v.fD≤2147483647∧(if t.fKind=3 then v.fD=1 else Nat.gcd v.fN.natAbs v.fD.natAbs=1))
def zLn(l:gLin):Bool:=l.fK==0&&l.fL.isEmpty
def wfI(i:Qf):Bool:=if i.fFrom=[] then i.fAt.isEmpty else zLn i.fLin
def plE(x:Q0):Bool:=decide (1≤x.fOp∧x.fOp≤18∧(x.fOp=1∨(x.fVal.fN=0∧x.fVal.fD=0))∧(x.fOp=1∨x.fOp=12∨x.fType=zT)∧(x.fOp=2∨zLn x.fLin=true)∧(x.fOp=3∨(x.fName=[]∧x.fIdx=[])))&&x.fIdx.all wfI
def naE(x:Q0):Bool:=(x.fOp !=3 || nm x.fName)&&x.fIdx.all fun i=>i.fFrom==[] || nm i.fFrom
def Wd(op:Int):Int:=if op=1∨op=2∨op=3 then 0 else if op=8∨op=12∨op=18 then 1 else if op=11 then 3 else 2
def isC(x:Q0):Bool:=decide (13≤x.fOp)&&decide (x.fOp≤18)
def Ga(op i:Int):Bool:=(op==11&&i==0) || op==16 || op==17 || op==18
def raE(x:Q0):Bool:=decide ((x.fArgs.length:Int)=Wd x.fOp∧x.fIdx.length≤6)&&x.fIdx.all fun i=>decide (i.fAt.length≤6)
def argG(op:Int):Int→List Q6→Bool
 |_,[]=>true
 |i,a::t=>(isC a.f==Ga op i)&&argG op (i+1) t
def tyE(x:Q0):Bool:=(!(decide (x.fOp=1∨x.fOp=12)) || tyOK x.fType)&&argG x.fOp 0 x.fArgs
def foE(x:Q0):Bool:=(x.fOp !=1 || vlOK x.fType x.fVal)&& (JA x).all VH
def K0(x:Q0):Int:=if plE x=false then 5 else if naE x=false then 7 else if raE x=false then 11 else if tyE x=false then 10 else if foE x=false then 1 else 0
def fstE{α:Type}(f:α→Int):List α→Int
 | []=>0
 |a::t=>if f a≠0 then f a else fstE f t
def maxL(l:List Nat):Nat:=l.foldr max 0
def dpE:Q6→Nat
 | .mk x=>1+maxL (x.fArgs.attach.map fun a=>dpE a.1)
 termination_by e=>SizeOf.sizeOf e
 decreasing_by exact Q6.lt a.2
def WV(e:Q0):Int:=if 40<dpE (.mk e) then 13 else if 2000< (Z1 (.mk e)).length then 2 else fstE (fun y=>K0 y.f) (Z1 (.mk e))
def Xw(a3:List Qc)(a4:Str):Option Qc:=a3.find? fun b=>b.fName==a4
def zBuf:Qc:=Qc.mk [] (Q8.mk (0:Int) (0:Int) (0:Int) (0:Int) (0:Int)) [] (0:Int)
def Kv:List Qc→List Qc→Int
 |_,[]=>0
 |p,b::t=>if nm b.fName=false then 7 else if p.any (fun x=>x.fName==b.fName) then 8 else if tyOK b.fType=false then 10 else if DB b.fDims≠0 then DB b.fDims else if b.fUse<1∨3<b.fUse then 1 else Kv (p++[b]) t
def inS(sc:List Str)(l:gLin):Bool:=l.fL.all fun m=>sc.contains m.fName
def Kb(n:Qi):List Qf→Int
 | []=>0
 |i::t=>if i.fFrom=[] then Kb n t else match Xw n.fBufs i.fFrom with
  |none=>9
  |some b=>if b.fType.fKind≠3 then 10 else if b.fDims.length≠i.fAt.length then 11 else Kb n t
def Vs(n:Qi)(sc:List Str)(x:Q0):Int:=if(JA x).all (inS sc)=false then 9 else if x.fOp≠3 then 0 else match Xw n.fBufs x.fName with
 |none=>9
 |some b=>if b.fDims.length≠x.fIdx.length then 11 else Kb n x.fIdx
def kd1(n:Qi)(x:Q0)(l:List (Q8×Int)):Q8×Int:=
 if l.any (fun r=>r.2 !=0) then(zT,10) else if x.fOp=1∨x.fOp=12 then(x.fType,0) else if x.fOp=2 then(⟨3,0,0,0,0⟩,0)
 else if x.fOp=3 then(((Xw n.fBufs x.fName).getD zBuf).fType,0) else if x.fOp=16∨x.fOp=17∨x.fOp=18 then(zT,0)
 else match l.reverse with
  | []=>(zT,10)
  | [a]=>(a.1,0)
  |a::b::_=>if b.1≠a.1 then(zT,10) else if isC x then(zT,0) else(a.1,0)
def kd(n:Qi):Q6→Q8×Int
 | .mk x=>kd1 n x (x.fArgs.attach.map fun a=>kd n a.1)
 termination_by e=>SizeOf.sizeOf e
 decreasing_by exact Q6.lt a.2
def V7(n:Qi)(sc:List Str)(x:Q0):Q8×Int:=
 if WV x≠0 then(zT,WV x) else if fstE (fun y=>Vs n sc y.f) (Z1 (.mk x))≠0 then(zT,fstE (fun y=>Vs n sc y.f) (Z1 (.mk x))) else kd n (.mk x)
def isZE(x:Q0):Bool:=decide (x.fOp=0∧x.fName=[]∧x.fVal.fN=0∧x.fVal.fD=0∧x.fType=zT∧zLn x.fLin=true∧x.fIdx.length=0∧x.fArgs.length=0)
def plS(x:Qq):Bool:=decide ((x.fOp=1∨x.fOp=2∨x.fOp=3∨x.fOp=4)∧(x.fOp=4→x.fName=[])∧(x.fOp≠1→x.fMany=0∧x.fMark=0)∧(x.fOp≠3→x.fFold=0)∧(¬(x.fOp=2∨x.fOp=3)→x.fIdx.length=0)∧(x.fOp=1→isZE x.fExpr=true)∧(x.fOp=2∨x.fOp=3→x.fBody.length=0))
def rdE(x:Qq):Q0:=Ka.mk (3:Int) x.fName (gVal.mk (0:Int) (0:Int)) (Q8.mk (0:Int) (0:Int) (0:Int) (0:Int) (0:Int)) (gLin.mk (0:Int) []) x.fIdx []
def WL(n:Qi)(sc:List Str)(x:Qq):Int:=
 if(V7 n sc (rdE x)).2≠0 then(V7 n sc (rdE x)).2
 else if((Xw n.fBufs x.fName).getD zBuf).fUse=1∨(x.fOp=3∧(x.fFold<1∨4<x.fFold)) then 1
 else if(V7 n sc x.fExpr).2≠0 then(V7 n sc x.fExpr).2
 else if isC x.fExpr=true∨(V7 n sc x.fExpr).1≠((Xw n.fBufs x.fName).getD zBuf).fType then 10 else 0
def La(n:Qi)(a3:List Str)(x:Qq):Int:=
 if nm x.fName=false then 7 else if(Xw n.fBufs x.fName).isSome∨a3.contains x.fName=true then 8 else if x.fMany<1∨65536<x.fMany∨x.fMark<0∨3<x.fMark then 1 else 0
def V8(n:Qi)(sc a3:List Str)(x:Qq):Int:=
 if plS x=false then 5 else if x.fOp=1 then La n a3 x
 else if x.fOp=4 then(if(V7 n sc x.fExpr).2≠0 then(V7 n sc x.fExpr).2 else if isC x.fExpr then 0 else 10)
 else WL n sc x
abbrev Fl:=List Str×List Int×Int
def bdL(n:Qi)(sc:List Str)(a3:List Int):List (Qq× (List Str→List Str→List Int→Fl))→Int→List Str→Fl
 | [],_,used=>(used,[],0)
 | (x,g)::t,i,used=>
  if V8 n sc used x≠0 then([],a3++[i],V8 n sc used x)
  else if x.fOp=1 then(if(g (sc++[x.fName]) (used++[x.fName]) (a3++[i])).2.2≠0 then g (sc++[x.fName]) (used++[x.fName]) (a3++[i]) else bdL n sc a3 t (i+1) (g (sc++[x.fName]) (used++[x.fName]) (a3++[i])).1)
  else(if(g sc used (a3++[i])).2.2≠0 then g sc used (a3++[i]) else bdL n sc a3 t (i+1) (g sc used (a3++[i])).1)
def bd(n:Qi):Qb→List Str→List Str→List Int→Fl
 | .mk x=>fun sc a3 a4=>bdL n sc a4 (x.fBody.attach.map fun a=>(a.1.f,bd n a.1)) 0 a3
 termination_by e=>SizeOf.sizeOf e
 decreasing_by exact Qb.lt a.2
def bdB(n:Qi)(sc:List Str)(a4:List Int)(l:List Qb)(a3:List Str):Fl:=bdL n sc a4 (l.map fun a=>(a.f,bd n a)) 0 a3
theorem bd_mk(n:Qi)(x:Qq)(sc a3:List Str)(a4:List Int):bd n (.mk x) sc a3 a4=bdB n sc a4 x.fBody a3:=by
 rw[bd];simp[bdB]
theorem bd_f(n:Qi)(s:Qb)(sc a3:List Str)(a4:List Int):bd n s sc a3 a4=bdB n sc a4 s.f.fBody a3:=by
 cases s with
 |mk x=>rw[bd_mk];rfl
def dp:Qb→Nat
 | .mk x=>1+maxL (x.fBody.attach.map fun a=>dp a.1)
 termination_by e=>SizeOf.sizeOf e
 decreasing_by exact Qb.lt a.2
def dpL(l:List Qb):Nat:=maxL (l.map dp)
def sz:Qb→Nat
 | .mk x=>1+(x.fBody.attach.map fun a=>sz a.1).sum
 termination_by e=>SizeOf.sizeOf e
 decreasing_by exact Qb.lt a.2
def szL(l:List Qb):Nat:=(l.map sz).sum
def vd(n:Qi):List Int×Int:=
 if 40<dpL n.fBody then([],13) else if 2000<szL n.fBody∨128<n.fBufs.length then([],2) else if Kv [] n.fBufs≠0 then([],Kv [] n.fBufs)
 else((bdB n [] [] n.fBody []).2.1,(bdB n [] [] n.fBody []).2.2)
end Go.Proofs.YtolcgikajjkjgaaGreatDoor
end
section
namespace Go.Proofs.YtolcgikajjkjgaaGreatDoor
open Go HY
set_option linter.unusedVariables false
set_option linter.unusedSimpArgs false
theorem bI{α β:Type}{c:Prop} [Decidable c] {x y:Option α} {f:α→Option β}:((if c then x else y)>>=f)=if c then x>>=f else y>>=f:=by split<;>rfl
theorem WE(t:Q8):XZ t=some (if tyOK t=true then 0 else 10):=by
 unfold XZ Nr YK tyOK;simp only[bS,bI,Wc,Ds,beq_iff_eq,bne_iff_ne,Bool.and_eq_true,decide_eq_true_eq,Bool.true_and,Bool.and_true]
 grind
theorem r_Type(t:Q8):Gy t=some (tyOK t):=by
 unfold Gy tyOK;simp only[bS,beq_iff_eq,bne_iff_ne,Bool.and_eq_true,decide_eq_true_eq,Bool.true_and,Bool.and_true]
 grind
theorem Co(x:Q0):YB x=some (isC x):=by
 unfold YB isC
 grind
theorem Gu(x:Q0):Xi x=some (isC x):=by
 unfold Xi isC
 grind
theorem Bk(op:Int):GH op=some (Wd op):=by
 unfold GH Wd;simp only[bS,beq_iff_eq]
 grind
theorem r_args(op:Int):CU op=some (Wd op):=by
 unfold CU Wd;simp only[bS,beq_iff_eq]
 grind
theorem Bl(op i:Int):KL op i=some (Ga op i):=by
 unfold KL Ga;simp only[bS,beq_iff_eq]
 grind
theorem r_wants(op i:Int):Ce op i=some (Ga op i):=by
 unfold Ce Ga;simp only[bS,beq_iff_eq]
 grind
theorem wrap32(c:UInt8):IntKind.i32.wrap (c.toNat:Int)=c.toNat:=by
 have:=c.toNat_lt;rw[IntKind.wrap_i32];omega
theorem FB(c:UInt8):UY (c.toNat:Int)=some (low c):=by
 unfold UY low;grind
theorem Q14(c:UInt8):Dg (c.toNat:Int)=some (tl c):=by
 unfold Dg Np tl;rw[FB];simp only[bS];grind
def spn(q:UInt8→Bool):Str→Nat
 | []=>0
 |c::t=>if q c then spn q t+1 else 0
theorem OA(q:UInt8→Bool):∀s:Str,(spn q s=s.length)=(s.all q=true)∧spn q s≤s.length
 | []=>by simp[spn]
 |c::t=>by
  have ih:=OA q t;unfold spn;cases hq:q c with
  |true=>simp only[if_true,List.length_cons,List.all_cons,hq,Bool.true_and,Nat.add_right_cancel_iff];exact⟨ih.1,by omega⟩
  |false=>simp[hq]
theorem S7(s:Str)(hl:s.length≤1048576):∀(t p:Str),s=p++t→ZP s p.length=some ((p.length:Int)+spn tl t)
 | [],p,e=>by
  rw[ZP];subst e;simp[spn,bS]
 |c::t,p,e=>by
  have ih:=S7 s hl t (p++[c]) (by rw[e];simp)
  have a3:(p.length:Int)<s.length:=by rw[e];simp;omega
  rw[ZP];simp only[bS];rw[if_pos a3,YE e,bS,wrap32,Q14,bS];unfold spn;cases hc:tl c with
  |true=>
   simp only[Wc,bS];rw[Zn (by omega) a3 (by omega)]
   rw[show((p++[c]).length:Int)=(p.length:Int)+1 by simp] at ih
   rw[ih];simp;omega
  |false=>simp[bS]
theorem p_span(s:Str)(hl:s.length≤1048576):Gf s=some (spn tl s:Int):=by
 unfold Gf;simp only[bS];have e:ZP s 0=_:=S7 s hl s [] rfl;rw[e];simp[bS]
theorem Bh(l:List Str)(s:Str)(hl:l.length≤4611686018427387904):∃r,Zl l s l.length 0=some r∧(match r with | .inl _=>l.contains s=false | .inr k=>0≤k∧l.contains s=true):=by
 have key:∀(t p:List Str),l=p++t→∃r,Zl l s l.length p.length=some r∧(match r with | .inl _=>t.contains s=false | .inr k=>0≤k∧t.contains s=true):=by
  intro t
  induction t with
  |nil=>intro p e;subst e;exact⟨_,by rw[Zl];simp;rfl,rfl⟩
  |cons c t ih=>
   intro p e;have a3:(p.length:Int)<l.length:=by rw[e];simp;omega
   rw[Zl,if_pos a3,YE e,bS,List.contains_cons];cases hc:s==c with
   |true=>exact⟨_,rfl,by omega,rfl⟩
   |false=>
    rw[if_neg (by simp),Zn (by omega) a3 hl]
    have:=ih (p++[c]) (by rw[e];simp)
    rw[show((p++[c]).length:Int)=(p.length:Int)+1 by simp] at this
    simpa using this
 exact key l [] rfl
theorem LP(l:List Str)(s:Str)(hl:l.length≤4611686018427387904):XC l s=some (l.contains s):=by
 obtain⟨r,e,h⟩:=Bh l s hl;unfold XC UZ;simp only[bS];rw[e];cases r with
 |inl a=>simp only[bS];rw[h];rfl
 |inr k=>simp only[bS];rw[h.2];simp[h.1]
theorem kwL_kw:kwL=kw:=rfl
theorem LQ(s:Str):Vo s=some (nm s):=by
 unfold Vo nm;cases s with
 |nil=>simp
 |cons c t=>
  simp only[show(!(c::t==([]:Str)))=true from rfl,if_true];by_cases h2:((c::t).length:Int)≤16
  ·rw[if_pos h2,show ix (c::t) 0=some c from rfl,bS,wrap32,FB,bS,decide_eq_true (p:=1≤((c::t).length:Int)) (by simp;omega),decide_eq_true h2]
   simp only[Bool.true_and];cases hc:low c with
   |false=>simp
   |true=>
    rw[if_pos rfl,p_span _ (by omega),bS]
    obtain⟨h3,h4⟩:=OA tl (c::t);by_cases h5:spn tl (c::t)=(c::t).length
    ·rw[if_pos (by simp[h5])]
     unfold DI Cv;rw[bS,LP _ _ (by decide),bS,kwL_kw,bS,show(c::t).all tl=true from h3▸h5]
     simp
    ·rw[if_neg (by simpa using (by omega:¬((spn tl (c::t):Int)=(c::t).length)))]
     have:(c::t).all tl=false:=by
      cases h:(c::t).all tl with
      |true=>exact absurd (h3.symm▸h:_) h5
      |false=>rfl
     rw[this];simp
  ·rw[if_neg h2,decide_eq_false (p:=((c::t).length:Int)≤16) h2];simp
theorem idxF{α:Type}{l:List α}{q:α→Bool}{L:Int→Option (Unit ⊕ Int)}{p:α→Option Bool}(hl:l.length≤4611686018427387904)
  (hL:∀i,L i=if i< (l.length:Int) then ix l i>>=fun v=>p v>>=fun b=>if b=true then some (.inr i) else L (wr (i+1)) else some (.inl ()))
  (hp:∀x∈l,p x=some (q x)):∃r,L 0=some r∧(match r with | .inl _=>l.any q=false | .inr k=>0≤k∧l.any q=true):=by
 have key:∀(t p:List α),l=p++t→∃r,L p.length=some r∧(match r with | .inl _=>t.any q=false | .inr k=>0≤k∧t.any q=true):=by
  intro t
  induction t with
  |nil=>intro p e;subst e;exact⟨_,by rw[hL];simp;rfl,rfl⟩
  |cons c t ih=>
   intro p e;have a3:(p.length:Int)<l.length:=by rw[e];simp;omega
   rw[hL,if_pos a3,YE e,bS,hp c (by rw[e];simp),bS,List.any_cons]
   cases hc:q c with
   |true=>exact⟨_,rfl,by omega,rfl⟩
   |false=>
    rw[if_neg (by simp),Zn (by omega) a3 hl]
    have:=ih (p++[c]) (by rw[e];simp)
    rw[show((p++[c]).length:Int)=(p.length:Int)+1 by simp] at this
    simpa using this
 exact key l [] rfl
theorem L3{α:Type}(q:α→Bool)(l:List α):(!(l.any fun x=> !(q x)))=l.all q:=by
 induction l with
 |nil=>rfl
 |cons a t ih=>rw[List.any_cons,List.all_cons,← ih];cases q a<;>simp
theorem FA(l:gLin):Gq l=some (zLn l):=by
 unfold Gq zLn;cases l with
 |mk k t=>cases t<;>simp[bS]<;>grind
theorem FC(i:Qf):UL i=some (wfI i):=by
 unfold UL wfI;rw[FA];by_cases h:i.fFrom=[]
 ·simp only[h,bS,if_true,beq_self_eq_true];cases i.fAt with
  |nil=>rfl
  |cons a t=>simp;omega
 ·simp[h,bS]
theorem p_cf1(l:List Qf)(hl:l.length≤4611686018427387904):X3 l=some (l.any fun i=> !(wfI i)):=by
 obtain⟨r,e,h⟩:=idxF (l:=l) (q:=fun i=> !(wfI i)) (L:=QQ l l.length) hl (fun i=>by rw[QQ]) (fun x _=>by unfold CP;rw[FC,bS])
 unfold X3 K5;simp only[bS];rw[e];cases r with
 |inl a=>simp only[bS];rw[h];rfl
 |inr k=>simp only[bS];rw[h.2];simp[h.1]
theorem p_cf2(l:List Qf)(hl:l.length≤4611686018427387904):X4 l=some (l.any fun i=> !(i.fFrom==[] || nm i.fFrom)):=by
 obtain⟨r,e,h⟩:=idxF (l:=l) (q:=fun i=> !(i.fFrom==[] || nm i.fFrom)) (L:=QR l l.length) hl (fun i=>by rw[QR]) (fun x _=>by unfold Ws;rw[LQ];cases x.fFrom==[]<;>rfl)
 unfold X4 K6;simp only[bS];rw[e];cases r with
 |inl a=>simp only[bS];rw[h];rfl
 |inr k=>simp only[bS];rw[h.2];simp[h.1]
theorem p_cf3(l:List Qf)(hl:l.length≤4611686018427387904):X5 l=some (l.any fun i=> !(decide (i.fAt.length≤6))):=by
 obtain⟨r,e,h⟩:=idxF (l:=l) (q:=fun i=> !(decide (i.fAt.length≤6))) (L:=QS l l.length) hl (fun i=>by rw[QS]) (fun x _=>by unfold Nn;simp only[bS];congr 1;rw[Bool.eq_iff_iff];simp;omega)
 unfold X5 K7;simp only[bS];rw[e];cases r with
 |inl a=>simp only[bS];rw[h];rfl
 |inr k=>simp only[bS];rw[h.2];simp[h.1]
theorem plE_eq(x:Q0):plE x=(decide (1≤x.fOp∧x.fOp≤18)&& ((x.fOp==1 || (x.fVal.fN==0&& (x.fVal.fD==0&&true)))&& ((x.fOp==1 || x.fOp==12 || (x.fType.fKind==0&& (x.fType.fBits==0&& (x.fType.fFrac==0&& (x.fType.fRound==0&& (x.fType.fOver==0&&true))))))&& ((x.fOp==2 || zLn x.fLin)&& ((x.fOp==3 || (x.fName==[]&&decide (¬(0:Int)<x.fIdx.length)))&&x.fIdx.all wfI))))):=by
 unfold plE;have e1:x.fType=zT↔(x.fType.fKind=0∧x.fType.fBits=0∧x.fType.fFrac=0∧x.fType.fRound=0∧x.fType.fOver=0):=by
  cases x.fType;simp[zT]
 have e2:x.fIdx=[]↔¬(0:Int)<x.fIdx.length:=by cases x.fIdx<;>simp
 rw[Bool.eq_iff_iff];simp only[Bool.and_eq_true,decide_eq_true_eq,Bool.or_eq_true,beq_iff_eq,Bool.and_true];rw[e1,e2];constructor
 ·rintro⟨⟨a,b,c,d,e,f⟩,g⟩;exact⟨⟨a,b⟩,c,by rcases d with d | d | d<;>simp[d],e,f,g⟩
 ·rintro⟨⟨a,b⟩,c,d,e,f,g⟩;exact⟨⟨a,b,c,by rcases d with(d | d) | d<;>simp[d],e,f⟩,g⟩
theorem Q17(x:Q0)(hl:x.fIdx.length≤4611686018427387904):C9 x=some (plE x):=by
 rw[plE_eq];unfold C9;rw[p_cf1 _ hl,FA];simp only[bS,bI,L3,Wc,Ds,if_true,if_false,Bool.false_eq_true];generalize (x.fVal.fN==0&& (x.fVal.fD==0&&true))=V;generalize (x.fType.fKind==0&& (x.fType.fBits==0&& (x.fType.fFrac==0&& (x.fType.fRound==0&& (x.fType.fOver==0&&true)))))=T;generalize zLn x.fLin=Z;generalize (x.fName==[])=N;generalize x.fIdx.all wfI=A;generalize (x.fIdx.length:Int)=I;generalize x.fOp=op
 cases V<;>cases T<;>cases Z<;>cases N<;>grind
theorem p_names(x:Q0)(hl:x.fIdx.length≤4611686018427387904):CN x=some (naE x):=by
 unfold CN naE;rw[p_cf2 _ hl,LQ];simp only[bS,bI,L3,Wc,Ds,beq_iff_eq]
 grind
theorem p_rank(x:Q0)(hl:x.fIdx.length≤4611686018427387904):WP x=some (raE x):=by
 unfold WP raE;rw[p_cf3 _ hl,Bk];simp only[bS,bI,L3,Wc,Ds,bne_iff_ne]
 grind
end Go.Proofs.YtolcgikajjkjgaaGreatDoor
end
section
namespace Go.Proofs.YtolcgikajjkjgaaGreatDoor
open Go HY
set_option linter.unusedVariables false
set_option linter.unusedSimpArgs false
theorem Bm(d:List Int)(hl:d.length≤1048576):ZR d d.length 0=some (if d.any (fun v=>decide (v<1)) then .inr 1 else .inl ()):=by
 refine Rt (F:=fun i=>ZR d d.length i) (l:=d) (fun t=>if t.any (fun v=>decide (v<1)) then .inr 1 else .inl ()) ?_ ?_
 ·rw[ZR];simp
 ·intro i y t h0 h1 a3 ih;rw[ZR,if_pos h1,a3];simp only[bS,Aj h0 h1 (by omega),ih,List.any_cons]
  by_cases h2:y<1<;>simp[h2]
theorem OC{n v:Int}(hn:1≤n):((4096:Int).tdiv n<v)↔4096<n*v:=by
 rw[Int.tdiv_eq_ediv_of_nonneg (by omega),Int.ediv_lt_iff_lt_mul (by omega),Int.mul_comm]
theorem tdiv_le{n:Int}(hn:1≤n):0≤(4096:Int).tdiv n∧(4096:Int).tdiv n≤4096:=by
 rw[Int.tdiv_eq_ediv_of_nonneg (by omega)]
 exact⟨Int.ediv_nonneg (by omega) (by omega),Int.ediv_le_self _ (by omega)⟩
theorem PE(d:List Int)(hl:d.length≤1048576)(hd:∀v∈d,1≤v):ZG 1 d d.length 0=some (if(V9 1 d).isSome then .inl () else .inr 2):=by
 refine Y7 (F:=fun n i=>ZG n d d.length i) (l:=d) (fun n t=>1≤n∧n≤4096) (fun n t=>if(V9 n t).isSome then .inl () else .inr 2) ?_ ?_ 1 (by omega)
 ·intro n _;rw[ZG];simp[V9]
 ·intro i y t n h0 h1 hm a4 hI ih;have hy:=hd y hm;have h4:=tdiv_le hI.1;rw[ZG,if_pos h1,a4];simp only[bS,Aj h0 h1 (by omega)]
  rw[if_pos (show n≠0 by omega),Z2 (by omega)]
  by_cases h2:4096<n*y;·rw[if_pos ((OC hI.1).2 h2),Hb (.inr h2)];rfl
  ·have hp:n≤n*y:=by
    have:=Int.mul_le_mul_of_nonneg_left hy (show 0≤n by omega);rwa [Int.mul_one] at this
   rw[if_neg (fun h=>h2 ((OC hI.1).1 h)),FY (by omega),Z2 (by omega)]
   exact ih _ (by omega)
theorem Oo(d:List Int):U1 d=some (DB d):=by
 unfold U1 DB;simp only[bS];by_cases h6:(6:Int)<d.length;·rw[if_pos h6,if_pos (by omega)]
 ·have hl:d.length≤1048576:=by omega
  rw[if_neg h6,if_neg (by omega),Bm d hl]
  by_cases ha:d.any (fun v=>decide (v<1))=true
  ·rw[if_pos ha,if_pos ha];rfl
  ·rw[if_neg ha,bS,if_neg ha];simp only;rw[PE d hl (fun v hv=>by
    have:¬v<1:=fun h=>ha (List.any_eq_true.2 ⟨v,hv,by simpa using h⟩)
    omega)]
   cases hs:(V9 1 d).isSome<;>simp[bS]
theorem Bt(d:List Int)(hl:d.length≤1048576):ZQ d 0=some (if d.any (fun v=>decide (v<1)) then .inr 1 else .inl ()):=by
 refine Rt (F:=fun i=>ZQ d i) (l:=d) (fun t=>if t.any (fun v=>decide (v<1)) then .inr 1 else .inl ()) ?_ ?_
 ·rw[ZQ];simp[bS]
 ·intro i y t h0 h1 a3 ih;rw[ZQ,bS,if_pos h1,a3];simp only[bS,Aj h0 h1 (by omega),ih,List.any_cons]
  by_cases h2:y<1<;>simp[h2]
theorem PL(d:List Int)(hl:d.length≤1048576)(hd:∀v∈d,1≤v):ZF d 1 0=some (if(V9 1 d).isSome then .inl () else .inr 2):=by
 refine Y7 (F:=fun n i=>ZF d n i) (l:=d) (fun n t=>1≤n∧n≤4096) (fun n t=>if(V9 n t).isSome then .inl () else .inr 2) ?_ ?_ 1 (by omega)
 ·intro n _;rw[ZF];simp[V9,bS]
 ·intro i y t n h0 h1 hm a3 hI ih;have hy:=hd y hm;rw[ZF,bS,if_pos h1,a3];simp only[bS,Aj h0 h1 (by omega)]
  have hp:n≤n*y:=by
   have:=Int.mul_le_mul_of_nonneg_left hy (show 0≤n by omega);rwa [Int.mul_one] at this
  have hq:y≤n*y:=by
   have:=Int.mul_le_mul_of_nonneg_right hI.1 (show 0≤y by omega);rwa [Int.one_mul] at this
  by_cases h3:4096<y;·rw[if_pos h3,Hb (.inr (by omega))];rfl
  ·have hr:n*y≤16777216:=by
    have:=Int.mul_le_mul hI.2 (show y≤4096 by omega) (by omega) (by omega);omega
   rw[if_neg h3,Z2 (by omega)]
   by_cases h2:4096<n*y;·rw[if_pos h2,Hb (.inr h2)];rfl
   ·rw[if_neg h2,FY (by omega)]
    exact ih _ (by omega)
theorem Ot(d:List Int):U0 d=some (DB d):=by
 unfold U0 DB;simp only[bS];by_cases h6:(6:Int)<d.length;·rw[if_pos h6,if_pos (by omega)]
 ·have hl:d.length≤1048576:=by omega
  rw[if_neg h6,if_neg (by omega),Bt d hl]
  by_cases ha:d.any (fun v=>decide (v<1))=true
  ·rw[if_pos ha,if_pos ha];rfl
  ·rw[if_neg ha,bS,if_neg ha];simp only;rw[PL d hl (fun v hv=>by
    have:¬v<1:=fun h=>ha (List.any_eq_true.2 ⟨v,hv,by simpa using h⟩)
    omega)]
   cases hs:(V9 1 d).isSome<;>simp[bS]
theorem pw2(b:Int)(h:2≤b∧b≤31):1≤(2:Int)^ (b - 1).toNat∧(2:Int)^ (b - 1).toNat≤1073741824∧min (b - 1).toNat 64=(b - 1).toNat:=by
 obtain⟨k,rfl⟩:∃k:Nat,b=k+1:=⟨(b - 1).toNat,by omega⟩
 have hk:k≤30:=by omega
 rw[show((k:Int)+1 - 1).toNat=k by omega]
 refine⟨?_,?_,by omega⟩
 ·have:1≤(2:Nat)^k:=Nat.one_le_two_pow;have e:((2^k:Nat):Int)=(2:Int)^k:=by push_cast;rfl
  rw[← e];omega
 ·have:(2:Nat)^k≤2^30:=Nat.pow_le_pow_right (by decide) hk
  have e:((2^k:Nat):Int)=(2:Int)^k:=by push_cast;rfl
  rw[← e];omega
theorem FZ{t:Q8}(h:tyOK t=true)(hk:t.fKind=2):2≤t.fBits∧t.fBits≤31:=by
 unfold tyOK at h;rw[if_neg (by omega)] at h
 have:=of_decide_eq_true h;exact⟨this.2.1,this.2.2.1⟩
theorem E6(t:Q8)(hk:t.fKind=2):YK t=some (if tyOK t=true then 0 else 10):=by
 unfold YK tyOK;simp only[bS,bI,Wc,Ds,beq_iff_eq,bne_iff_ne,Bool.and_eq_true,decide_eq_true_eq,Bool.true_and,Bool.and_true,hk]
 grind
theorem gcd_L1(G:Int→Int→Option Int)(hG:∀a b,G a b=if(b !=(0:Int))=true then(if b≠(0:Int) then some (a.tmod b:Int)>>=fun v=>G b v else none) else some a):∀(b a:Nat),G a b=some (Nat.gcd a b:Int):=by
 intro b
 induction b using Nat.strongRecOn with
 |ind b ih=>
  intro a;rw[hG];by_cases hb:b=0;·subst hb;simp
  ·have h2:(b:Int)≠0:=by omega
   rw[if_pos (by simpa using h2),if_pos h2,bS]
   rw[show((a:Int).tmod (b:Int))=((a%b:Nat):Int) from rfl,ih (a%b) (Nat.mod_lt _ (by omega)) b,Nat.gcd_comm b,Nat.gcd_comm a b,Nat.gcd_rec b a]
theorem PD(v:gVal):CR v=some (decide (-2147483647≤v.fN∧v.fN≤2147483647∧1≤v.fD∧v.fD≤2147483647∧Nat.gcd v.fN.natAbs v.fD.natAbs=1)):=by
 unfold CR Wt Cu Lp;by_cases h1:(1:Int)≤v.fD
 ·by_cases h2:v.fD≤2147483647
  ·rw[if_pos h1,if_pos h2];by_cases h3:(-2147483647:Int)≤v.fN
   ·by_cases h4:v.fN≤2147483647
    ·have e1:(if v.fN<0 then some (w6 (0 - w6 v.fN)) else some (w6 v.fN))=some ((v.fN.natAbs:Nat):Int):=by
      split;·unfold w6;rw[IntKind.wrap_u64,IntKind.wrap_u64];congr 1;omega
      ·unfold w6;rw[IntKind.wrap_u64];congr 1;omega
     have e2:w6 v.fD=((v.fD.natAbs:Nat):Int):=by unfold w6;rw[IntKind.wrap_u64];omega
     rw[if_pos h3,bS,e1,bS,e2];simp only[decide_eq_true h4,if_true,bS];rw[gcd_L1 Jm (fun a b=>by rw[Jm]),bS,bS]
     congr 1;rw[Bool.eq_iff_iff,beq_iff_eq,decide_eq_true_iff];constructor;·intro h;exact⟨h3,h4,h1,h2,by omega⟩
     ·intro h;omega
    ·rw[if_pos h3,bS];simp[h4]
   ·rw[if_neg h3,bS];simp[h3]
  ·rw[if_pos h1,if_neg h2];simp[h2]
 ·rw[if_neg h1];simp[h1]
theorem p_Valid(t:Q8)(v:gVal)(h:tyOK t=true):Ck t v=some (vlOK t v):=by
 unfold Ck vlOK;rw[WE,if_pos h,bS];simp only[bne_self_eq_false,Bool.false_eq_true,if_false,beq_iff_eq];by_cases h2:t.fKind=2
 ·rw[if_pos h2,if_pos h2];obtain⟨b1,b2⟩:=FZ h h2;obtain⟨c1,c2,c3⟩:=pw2 _ ⟨b1,b2⟩;unfold No Wv Wu Cj;rw[E6 t h2,if_pos h];have w1:wr (t.fBits - 1)=t.fBits - 1:=Z2 (by omega)
  have w2:w6 (t.fBits - 1)=t.fBits - 1:=by unfold w6;rw[IntKind.wrap_u64];omega
  simp only[bS,w1,w2,c3,Int.one_mul,beq_self_eq_true,if_true,decide_eq_true b2];rw[if_pos b1];generalize (2:Int)^ (t.fBits - 1).toNat=P at*;simp only[bS,if_true];simp only[if_pos (show(0:Int)≤t.fBits - 1 by omega),bS]
  rw[Z2 (n:=P) (by omega),Z2 (n:=0 - P) (by omega),Z2 (n:=P - 1) (by omega)]
  simp only[beq_iff_eq]
  grind
 ·rw[if_neg h2,if_neg h2];by_cases h3:t.fKind=3
  ·rw[if_pos h3];simp only[h3,if_true];unfold Ns
   grind
  ·rw[if_neg h3,PD,bS];simp only[h3,if_false]
theorem r_Val(t:Q8)(v:gVal)(h:tyOK t=true):NC t v=some (vlOK t v):=by
 unfold NC vlOK Lo;simp only[beq_iff_eq];by_cases h2:t.fKind=2
 ·rw[if_pos h2,if_pos h2];obtain⟨b1,b2⟩:=FZ h h2;obtain⟨c1,c2,c3⟩:=pw2 _ ⟨b1,b2⟩;have w1:wr (t.fBits - 1)=t.fBits - 1:=Z2 (by omega)
  simp only[bS,w1,c3,Int.one_mul];generalize (2:Int)^ (t.fBits - 1).toNat=P at*;rw[if_pos (by omega),Z2 (n:=P) (by omega),Z2 (by omega)]
  grind
 ·rw[if_neg h2,if_neg h2];simp only[bS];by_cases a1:(2147483647:Int)<v.fN;·rw[if_pos a1,bS,if_pos rfl];congr 1;symm;rw[decide_eq_false_iff_not];omega
  rw[if_neg a1];by_cases a2:v.fN< -2147483647;·rw[if_pos a2,bS,if_pos rfl];congr 1;symm;rw[decide_eq_false_iff_not];omega
  rw[if_neg a2];by_cases a3:v.fD<1;·rw[if_pos a3,bS,if_pos rfl];congr 1;symm;rw[decide_eq_false_iff_not];omega
  rw[if_neg a3];by_cases a4:(2147483647:Int)<v.fD;·rw[if_pos a4,bS,if_pos rfl];congr 1;symm;rw[decide_eq_false_iff_not];omega
  rw[if_neg a4,bS,if_neg (by simp)]
  by_cases h3:t.fKind=3;·rw[if_pos h3];simp only[h3,if_true];congr 1;rw[Bool.eq_iff_iff,beq_iff_eq,decide_eq_true_iff];constructor<;>intro h<;>first | exact⟨by omega,by omega,by omega,by omega,h⟩ | exact h.2.2.2.2
  ·rw[if_neg h3];simp only[h3,if_false,if_true];have e1:max v.fN (wr (0 - v.fN))=((v.fN.natAbs:Nat):Int):=by rw[Z2 (by omega)];omega
   have e2:v.fD=((v.fD.natAbs:Nat):Int):=by omega
   rw[e1]
   conv=>lhs;rw[e2]
   rw[gcd_L1 Jl (fun a b=>by rw[Jl]),bS,bS]
   congr 1;rw[Bool.eq_iff_iff,beq_iff_eq,decide_eq_true_iff];constructor;·intro h;exact⟨by omega,by omega,by omega,by omega,by omega⟩
   ·intro h;omega
end Go.Proofs.YtolcgikajjkjgaaGreatDoor
end
section
namespace Go.Proofs.YtolcgikajjkjgaaGreatDoor
open Go HY
set_option linter.unusedVariables false
set_option linter.unusedSimpArgs false
theorem NN{α β:Type}{l:List α}{q:α→Bool}{L:Int→Option (Unit ⊕ β)}{e:β}(hl:l.length≤4611686018427387904)(h0:L l.length=some (.inl ()))
    (h1:∀(i:Int) (x:α),0≤i→i<l.length→x∈l→ix l i=some x→L i=if q x=true then L (wr (i+1)) else some (.inr e)):L 0=some (if l.all q then .inl () else .inr e):=by
  have key:∀(t p:List α),l=p++t→L p.length=some (if t.all q then .inl () else .inr e):=by
    intro t
    induction t with
    | nil => intro p e1; have : p.length = l.length := by rw [e1]; simp
             rw[this,h0];rfl
    |cons c t ih=>
      intro p e1;have a3:(p.length:Int)<l.length:=by rw[e1];simp;omega
      rw[h1 p.length c (by omega) a3 (by rw[e1];simp) (YE e1),Zn (by omega) a3 hl,List.all_cons]
      have:=ih (p++[c]) (by rw[e1];simp)
      rw[show((p++[c]).length:Int)=(p.length:Int)+1 by simp] at this
      rw[this];cases q c<;>simp
  exact key l [] rfl
theorem r_zero(l:gLin):(if(l.fK !=(0:Int))=true then some true else some (List.length l.fL:Int)>>=fun v=>if(0:Int)<v then some true else some false)=some (!(zLn l)):=by
 unfold zLn;cases l with
 |mk k t=>cases t<;>simp[bS]<;>grind
theorem Bs(x:Q0)(hl:x.fIdx.length≤4611686018427387904):XU x 0=some (if x.fIdx.all wfI then .inl () else .inr false):=by
 refine NN (L:=XU x) hl (by rw[XU];simp[bS]) (fun i y h0 h1 hm a3=> ?_)
 rw[XU,bS,if_pos h1,a3];simp only[bS,r_zero];have e:zLn y.fLin=((y.fLin.fK==0)&&decide (¬(0:Int)<y.fLin.fL.length)):=by
  unfold zLn;cases y.fLin.fL<;>simp
 unfold wfI;rw[e];have e2:y.fAt.isEmpty=decide (¬(0:Int)<y.fAt.length):=by cases y.fAt<;>simp
 rw[e2];by_cases hf:y.fFrom=[];·simp[hf,bI,bS];grind
 ·simp only[hf,bI,bS];cases hL:y.fLin.fL<;>simp[hL]<;>grind
theorem r_plain(x:Q0)(hl:x.fIdx.length≤4611686018427387904):Cc x=some (plE x):=by
 rw[plE_eq];unfold Cc;rw[Bs x hl];have e:zLn x.fLin=((x.fLin.fK==0)&&decide (¬(0:Int)<x.fLin.fL.length)):=by
  unfold zLn;cases x.fLin.fL<;>simp
 rw[e];simp only[bS,bI,Wc,Ds,if_true,if_false,Bool.false_eq_true];generalize (x.fVal.fN==0&& (x.fVal.fD==0&&true))=V;generalize (x.fType.fKind==0&& (x.fType.fBits==0&& (x.fType.fFrac==0&& (x.fType.fRound==0&& (x.fType.fOver==0&&true)))))=T;generalize (x.fName==[])=N;generalize x.fIdx.all wfI=A;generalize (x.fIdx.length:Int)=I;generalize x.fOp=op;generalize (x.fLin.fL.length:Int)=J;generalize x.fLin.fK=K
 cases V<;>cases T<;>cases N<;>cases A<;>simp only[bS,if_true,if_false,Bool.false_eq_true,Bool.not_true,Bool.not_false]<;>grind
theorem Bq(x:Q0)(hl:x.fIdx.length≤4611686018427387904):XS x 0=some (if x.fIdx.all (fun i=>i.fFrom==[] || nm i.fFrom) then .inl () else .inr false):=by
 refine NN (L:=XS x) hl (by rw[XS];simp[bS]) (fun i y h0 h1 hm a3=> ?_)
 rw[XS,bS,if_pos h1,bS,a3,bS];by_cases hf:y.fFrom=[];·simp[hf,bS]
 ·simp only[hf,bS,C5];cases nm y.fFrom<;>simp[hf,bS]
theorem r_named(x:Q0)(hl:x.fIdx.length≤4611686018427387904):Cb x=some (naE x):=by
 unfold Cb naE;rw[Bq x hl,C5];by_cases h3:x.fOp=3;·cases hn:nm x.fName<;>cases hA:x.fIdx.all (fun i=>i.fFrom==[] || nm i.fFrom)<;>simp[h3,hn,hA,bS]
 ·cases hA:x.fIdx.all (fun i=>i.fFrom==[] || nm i.fFrom)<;>simp[h3,hA,bS]
theorem PK(x:Q0)(hl:x.fIdx.length≤4611686018427387904):Xp x 0=some (if x.fIdx.all (fun i=>decide (i.fAt.length≤6)) then .inl () else .inr false):=by
 refine NN (L:=Xp x) hl (by rw[Xp];simp[bS]) (fun i y h0 h1 hm a3=> ?_)
 rw[Xp,bS,if_pos h1,a3,bS,bS];by_cases h6:(6:Int)<y.fAt.length;·rw[if_pos h6,decide_eq_false (by omega)];rfl
 ·rw[if_neg h6,decide_eq_true (by omega)];rfl
theorem Q1e(x:Q0)(hl:x.fIdx.length≤4611686018427387904):Dk x=some (raE x):=by
 unfold Dk raE;rw[PK x hl,r_args];simp only[bS];generalize hA:(x.fIdx.all (fun i=>decide (i.fAt.length≤6)))=A
 by_cases h1:(x.fArgs.length:Int)=Wd x.fOp
 ·by_cases h6:(6:Int)<x.fIdx.length
  ·have:¬x.fIdx.length≤6:=by omega
   simp[h1,h6,this,bS]
  ·have:x.fIdx.length≤6:=by omega
   cases A<;>simp[h1,h6,this,bS]
 ·simp[h1,bS]
theorem RC(x:Q0)(hl:x.fArgs.length≤4611686018427387904):∀(t p:List Q6),x.fArgs=p++t→Yk x x.fArgs x.fArgs.length p.length=some (if argG x.fOp p.length t then .inl () else .inr false)
 | [],p,e=>by
  have:p.length=x.fArgs.length:=by rw[e];simp
  rw[Yk,if_neg (by omega)];rfl
 |c::t,p,e=>by
  have ih:=RC x hl t (p++[c]) (by rw[e];simp)
  have a3:(p.length:Int)<x.fArgs.length:=by rw[e];simp;omega
  rw[Yk,if_pos a3,YE e,omS,bS,Co,bS,Bl,bS,Zn (by omega) a3 hl]
  rw[show((p++[c]).length:Int)=(p.length:Int)+1 by simp] at ih
  rw[ih,argG];cases isC c.f<;>cases Ga x.fOp p.length<;>simp
theorem p_types(x:Q0)(hl:x.fArgs.length≤4611686018427387904):CQ x=some (tyE x):=by
 unfold CQ tyE;have e:Yk x x.fArgs x.fArgs.length 0=_:=RC x hl x.fArgs [] rfl;rw[WE];simp only[bS,e,List.length_nil,Int.natCast_zero];cases ht:tyOK x.fType<;>cases hA:argG x.fOp 0 x.fArgs<;>by_cases h1:x.fOp=1<;>by_cases h2:x.fOp=12<;>simp[h1,h2,bS]
theorem RF(x:Q0)(hl:x.fArgs.length≤4611686018427387904):∀(t p:List Q6),x.fArgs=p++t→XV x p.length=some (if argG x.fOp p.length t then .inl () else .inr false)
 | [],p,e=>by
  have:p.length=x.fArgs.length:=by rw[e];simp
  rw[XV,bS,if_neg (by omega)];rfl
 |c::t,p,e=>by
  have ih:=RF x hl t (p++[c]) (by rw[e];simp)
  have a3:(p.length:Int)<x.fArgs.length:=by rw[e];simp;omega
  rw[XV,bS,if_pos a3,YE e,omS,bS,Gu,bS,r_wants,bS,Zn (by omega) a3 hl]
  rw[show((p++[c]).length:Int)=(p.length:Int)+1 by simp] at ih
  rw[ih,argG];cases isC c.f<;>cases Ga x.fOp p.length<;>simp
theorem r_typed(x:Q0)(hl:x.fArgs.length≤4611686018427387904):Cd x=some (tyE x):=by
 unfold Cd tyE;have e:XV x 0=_:=RF x hl x.fArgs [] rfl;rw[r_Type];simp only[bS,e,List.length_nil,Int.natCast_zero];cases ht:tyOK x.fType<;>cases hA:argG x.fOp 0 x.fArgs<;>by_cases h1:x.fOp=1<;>by_cases h2:x.fOp=12<;>simp[h1,h2,bS]
theorem If:∀(l:List gLin),(∀a∈l,okL a)→VP l=some (l.all VH)
 | [],_=>rfl
 |a::t,h=>by
  rw[VP,TH a (h a (by simp)),bS,If t (fun b hb=>h b (by simp[hb])),List.all_cons]
  cases VH a<;>simp
theorem S5{x:Q0}(h1:okL x.fLin)(h2:∀i∈x.fIdx,okI i):∀a∈JA x,okL a:=by
 intro a ha;unfold JA at ha;rcases List.mem_cons.1 ha with rfl | ha
 ·exact h1
 ·obtain⟨l,hl,a3⟩:=List.mem_flatten.1 ha;obtain⟨i,hi,rfl⟩:=List.mem_map.1 hl;unfold X6 at a3;rcases List.mem_cons.1 a3 with rfl | a3
  ·exact(h2 i hi).1
  ·exact(h2 i hi).2.2 a a3
theorem PG(x:Q0)(hx:okE (.mk x)):Ge x=some (K0 x):=by
 obtain⟨h1,h2,h3,h4,h5⟩:=hx.of;have hI:x.fIdx.length≤4611686018427387904:=by omega
 have hA:x.fArgs.length≤4611686018427387904:=by omega
 have a4:∀i∈x.fIdx,i.fAt.length≤4611686018427387904:=fun i hi=>by have:=(h3 i hi).2.1;omega
 have hT:VQ x=some (if(JA x).all VH then 0 else 1):=by
  unfold VQ;rw[FS x ⟨hI,a4⟩,bS,If _ (S5 h1 h3),bS]
 unfold Ge K0;rw[Q17 x hI,p_names x hI,p_rank x hI,p_types x hA,hT];simp only[bS];cases plE x<;>simp only[Bool.false_eq_true,if_true,if_false,Bool.true_eq_false]
 cases naE x<;>simp only[Bool.false_eq_true,if_true,if_false,Bool.true_eq_false]
 cases raE x<;>simp only[Bool.false_eq_true,if_true,if_false,Bool.true_eq_false]
 cases ht:tyE x<;>simp only[Bool.false_eq_true,if_true,if_false,Bool.true_eq_false]
 unfold foE;by_cases ho:x.fOp=1
 ·have a5:tyOK x.fType=true:=by
   unfold tyE at ht;rw[Bool.and_eq_true] at ht;simpa[ho] using ht.1
  rw[if_pos (by simpa using ho),p_Valid _ _ a5,bS,ho]
  cases vlOK x.fType x.fVal<;>cases(JA x).all VH<;>simp
 ·rw[if_neg (by simpa using ho)]
  cases(JA x).all VH<;>simp[ho]
theorem PJ(x:Q0)(k:Int)(i:Qf)(hk:ix x.fIdx k=some i)(hi:okI i):Xo x k 0=some (if i.fAt.all VH then .inl () else .inr false):=by
 refine NN (L:=Xo x k) (by have:=hi.2.1;omega) (by rw[Xo,hk];simp[bS]) (fun j y h0 h1 hm a3=> ?_)
 rw[Xo,hk,bS,bS,if_pos h1,bS,a3,bS,Wj y (hi.2.2 y hm),bS]
theorem PI(x:Q0)(hl:x.fIdx.length≤4611686018427387904)(h:∀i∈x.fIdx,okI i):Xn x 0=some (if x.fIdx.all (fun i=>(X6 i).all VH) then .inl () else .inr false):=by
 refine NN (L:=Xn x) hl (by rw[Xn];simp[bS]) (fun i y h0 h1 hm a3=> ?_)
 rw[Xn,bS,if_pos h1,a3,bS,Wj y.fLin (h y hm).1,bS];unfold X6;rw[List.all_cons];cases hb:VH y.fLin with
 |false=>simp
 |true=>
  rw[if_pos rfl,bS,PJ x i y a3 (h y hm)];cases y.fAt.all VH<;>simp[bS]
theorem BI(x:Q0):(JA x).all VH=(VH x.fLin&&x.fIdx.all (fun i=>(X6 i).all VH)):=by
 unfold JA;rw[List.all_cons];congr 1;generalize x.fIdx=l
 induction l with
 |nil=>rfl
 |cons a t ih=>simp only[List.map_cons,List.flatten_cons,List.all_append,List.all_cons];rw[ih]
theorem Q1b(x:Q0)(hx:okE (.mk x))(ht:tyE x=true):Dj x=some (foE x):=by
 obtain⟨h1,h2,h3,h4,h5⟩:=hx.of;have hI:x.fIdx.length≤4611686018427387904:=by omega
 unfold Dj foE;rw[PI x hI h3,Wj x.fLin h1,BI];by_cases ho:x.fOp=1
 ·have a4:tyOK x.fType=true:=by
   unfold tyE at ht;rw[Bool.and_eq_true] at ht;simpa[ho] using ht.1
  rw[r_Val _ _ a4];cases vlOK x.fType x.fVal<;>cases VH x.fLin<;>cases x.fIdx.all (fun i=>(X6 i).all VH)<;>simp[ho,bS]
 ·cases VH x.fLin<;>cases x.fIdx.all (fun i=>(X6 i).all VH)<;>simp[ho,bS]
end Go.Proofs.YtolcgikajjkjgaaGreatDoor
end
section
namespace Go.Proofs.YtolcgikajjkjgaaGreatDoor
open Go HY
set_option linter.unusedVariables false
set_option linter.unusedSimpArgs false
theorem CI(x:Q0):Z1 (.mk x)= .mk x::Y3 x.fArgs:=Me x
theorem IS(a:Nat)(l:List Nat):maxL (a::l)=max a (maxL l):=rfl
theorem F1(x:Q0):dpE (.mk x)=1+maxL (x.fArgs.map dpE):=by rw[dpE];simp
theorem NT:∀e:Q6,1≤dpE e:=fun e=>by cases e;rw[F1];omega
theorem p_depth:∀e:Q6,okE e→∀m:Int,1≤m→m≤100→VO e.f m=some (min (dpE e:Int) m):=Q6.ind fun x ih hx m h1 h2=>by
 obtain⟨_,_,_,hA,a4⟩:=hx.of;rw[Q6.f_mk,VO];by_cases hm:m≤1;·rw[if_pos hm];have:=NT (.mk x);congr 1;omega
 ·rw[if_neg hm,bS,bS];have hL:Yj m 1 x.fArgs x.fArgs.length 0=some (max 1 (min (1+maxL (x.fArgs.map dpE):Int) m)):=by
   refine Y7 (F:=fun d i=>Yj m d x.fArgs x.fArgs.length i) (l:=x.fArgs) (fun d _=>1≤d∧d≤m) (fun d t=>max d (min (1+maxL (t.map dpE):Int) m)) ?_ ?_ 1 (by omega)
   ·intro d hd;rw[Yj,if_neg (by omega)]
    simp[maxL];omega
   ·intro i y t d h3 h4 a3 a5 hd a6;rw[Yj,if_pos h4,a5,omS,bS,Z2 (n:=m - 1) (by omega),ih y a3 (a4 y a3) (m - 1) (by omega) (by omega),bS,if_pos rfl,Zn h3 h4 (by omega),Z2 (by have:=NT y;omega)]
    have hp:=NT y;rw[a6 _ (by omega),List.map_cons,IS]
    congr 1;omega
  rw[hL,bS,F1];congr 1;omega
theorem r_depth:∀e:Q6,okE e→∀m:Int,1≤m→m≤100→V0 e.f m=some (min (dpE e:Int) m):=Q6.ind fun x ih hx m h1 h2=>by
 obtain⟨_,_,_,hA,a4⟩:=hx.of;rw[Q6.f_mk,V0,bS];by_cases hm:m≤1
 ·rw[X7,bS,bS];have:(if(0:Int)< (x.fArgs.length:Int) then(if(1:Int)<m then some true else some false) else some false)=some false:=by
   rw[if_neg (show ¬(1:Int)<m by omega)];split<;>rfl
  rw[this];have:=NT (.mk x);simp only[bS,if_false,Bool.false_eq_true];congr 1;omega
 ·have hL:X7 m x 1 0=some (max 1 (min (1+maxL (x.fArgs.map dpE):Int) m)):=by
   refine Y7 (F:=fun d i=>X7 m x d i) (l:=x.fArgs) (fun d _=>1≤d∧d≤m) (fun d t=>max d (min (1+maxL (t.map dpE):Int) m)) ?_ ?_ 1 (by omega)
   ·intro d hd;rw[X7,bS,bS,if_neg (by omega)]
    simp[maxL,bS];omega
   ·intro i y t d h3 h4 a3 a5 hd a6;rw[X7,bS,bS,if_pos h4,if_pos (show(1:Int)<m by omega),bS,if_pos rfl]
    simp only;rw[a5,omS,bS,Z2 (n:=m - 1) (by omega),ih y a3 (a4 y a3) (m - 1) (by omega) (by omega),bS,if_pos trivial,Zn h3 h4 (by omega),Z2 (by have:=NT y;omega)]
    have hp:=NT y;rw[a6 _ (by omega),List.map_cons,IS]
    congr 1;omega
  rw[hL,bS,F1];congr 1;omega
theorem Fx:∀(l:List Q6) (c:Int),0≤c→c≤2000→Uc l c=some (min (c+l.length) 2001)
 | [],c,h0,h1=>by rw[Uc];congr 1;simp;omega
 |a::t,c,h0,h1=>by
  rw[Uc,bS,Z2 (by omega)]
  by_cases h:2000<c+1;·rw[if_pos h];congr 1;simp;omega
  ·rw[if_neg h,Fx t (c+1) (by omega) (by omega)];congr 1;simp;omega
theorem aE_of:∀e:Q6,okE e→aE e:=Q6.ind fun x ih hx=>by
 obtain⟨_,_,_,hA,a3⟩:=hx.of;exact .mk x (by omega) (fun a ha=>ih a ha (a3 a ha))
theorem p_Size(x:Q0)(hx:okE (.mk x)):WO x=some (min ((Z1 (.mk x)).length:Int) 2001):=by
 unfold WO;rw[MS x (aE_of _ hx),bS,Fx _ 0 (by omega) (by omega),bS];congr 1;show min (0+((Z1 (.mk x)).length:Int)) 2001=_;omega
theorem BT(x:Q0):1≤(Z1 (.mk x)).length:=by rw[Me];simp
theorem r_size:∀e:Q6,okE e→∀m:Int,0≤m→m≤100000→VS e.f m=some (min ((Z1 e).length:Int) (m+1)):=Q6.ind fun x ih hx m h1 h2=>by
 obtain⟨_,_,_,hA,a4⟩:=hx.of;rw[Q6.f_mk,VS];simp only[bS];have hL:Yl m x 1 0=some (min (1+(Y3 x.fArgs).length:Int) (m+1)):=by
  refine Y7 (F:=fun d i=>Yl m x d i) (l:=x.fArgs) (fun d _=>1≤d∧d≤m+1) (fun d t=>min (d+(Y3 t).length:Int) (m+1)) ?_ ?_ 1 (by omega)
  ·intro d hd;rw[Yl,bS,bS,if_neg (by omega)]
   simp[Y3,bS];omega
  ·intro i y t d h3 h4 a3 a5 hd a6;rw[Yl,bS,bS,if_pos h4];by_cases hc:d≤m
   ·rw[if_pos hc,bS,if_pos rfl];simp only;have hp:1≤(Z1 y).length:=by cases y;exact BT _
    rw[a5,omS,bS,Z2 (n:=m - d) (by omega),ih y a3 (a4 y a3) (m - d) (by omega) (by omega),bS,bS,Zn h3 h4 (by omega),Z2 (by omega)]
    rw[a6 _ (by omega),C3,List.length_append]
    congr 1;omega
   ·rw[if_neg hc];simp only[bS,if_false,Bool.false_eq_true];congr 1;omega
 rw[hL,bS,CI,List.length_cons];congr 1;omega
theorem r_Size(x:Q0)(hx:okE (.mk x)):CT x=some (min ((Z1 (.mk x)).length:Int) 2001):=by
 unfold CT;have:=r_size (.mk x) hx 2000 (by omega) (by omega)
 rw[Q6.f_mk] at this;rw[this,bS];simp only[Bool.false_eq_true,if_false];congr 1;omega
theorem Fe{α:Type}(f:α→Int)(b:List α):∀a:List α,fstE f (a++b)=if fstE f a≠0 then fstE f a else fstE f b
 | []=>by simp[fstE]
 |x::t=>by
  rw[List.cons_append,fstE,fstE,Fe f b t];by_cases h:f x≠0;·simp[h]
  ·rw[if_neg h,if_neg h]
theorem IV:∀e:Q6,okE e→∀y∈Z1 e,okE y:=Q6.ind fun x ih hx y hy=>by
 obtain⟨_,_,_,hA,a3⟩:=hx.of;rw[CI] at hy;rcases List.mem_cons.1 hy with rfl | hy
 ·exact hx
 ·unfold Y3 at hy;obtain⟨l,hl,a5⟩:=List.mem_flatten.1 hy;obtain⟨a,ha,rfl⟩:=List.mem_map.1 hl;exact ih a ha (a3 a ha) y a5
theorem IY:∀(l:List Q6),(∀a∈l,okE a)→Jp l=some (fstE (fun y=>K0 y.f) l)
 | [],_=>rfl
 |a::t,h=>by
  have ha:okE (.mk a.f):=by rw[Q6.mk_f];exact h a (by simp)
  rw[Jp,PG a.f ha,bS,IY t (fun b hb=>h b (by simp[hb])),fstE]
  by_cases hp:K0 a.f=0;·simp[hp]
  ·simp[hp]
theorem Bi(x:Q0)(hx:okE (.mk x)):GG x=some (WV x):=by
 unfold GG WV M2;have hd:=p_depth (.mk x) hx 41 (by omega) (by omega)
 rw[Q6.f_mk] at hd;rw[hd,bS,bS,p_Size x hx,MS x (aE_of _ hx)];by_cases h1:40<dpE (.mk x);·rw[if_pos h1,if_pos (by omega)]
 ·rw[if_neg h1,if_neg (by omega),bS]
  by_cases h2:2000< (Z1 (.mk x)).length;·rw[if_pos h2,if_pos (by omega)]
  ·rw[if_neg h2,if_neg (by omega),bS,IY _ (IV _ hx),bS]
theorem r_part:∀e:Q6,okE e→VR e.f=some (fstE (fun y=>K0 y.f) (Z1 e)):=Q6.ind fun x ih hx=>by
 obtain⟨h1,h2,h3,hA,a9⟩:=hx.of;have hI:x.fIdx.length≤4611686018427387904:=by omega
 have hL:XT x 0=some (if fstE (fun y=>K0 y.f) (Y3 x.fArgs)≠0 then .inr (fstE (fun y=>K0 y.f) (Y3 x.fArgs)) else .inl ()):=by
  refine Y7 (α:=Unit) (F:=fun _ i=>XT x i) (l:=x.fArgs) (fun _ _=>True) (fun _ t=>if fstE (fun y=>K0 y.f) (Y3 t)≠0 then .inr (fstE (fun y=>K0 y.f) (Y3 t)) else .inl ()) ?_ ?_ () trivial
  ·intro _ _;rw[XT,bS,if_neg (by omega)]
   simp[Y3,fstE]
  ·intro i y t _ h3 h4 a6 ac _ ad;rw[XT,bS,if_pos h4,ac,omS,bS,ih y a6 (a9 y a6),bS,Zn h3 h4 (by omega),ad () trivial,C3,Fe]
   by_cases hz:fstE (fun y=>K0 y.f) (Z1 y)=0
   ·simp[hz]
   ·simp[hz]
 rw[Q6.f_mk,VR,r_plain x hI,r_named x hI,Q1e x hI,r_typed x (by omega),hL,CI]
 rw[fstE];generalize fstE (fun y=>K0 y.f) (Y3 x.fArgs)=z
 simp only[bS,Q6.f_mk];unfold K0;rcases Bool.eq_false_or_eq_true (plE x) with a1 | a1
 rotate_left
 ·simp[a1]
 rcases Bool.eq_false_or_eq_true (naE x) with a2 | a2
 rotate_left
 ·simp[a1,a2]
 rcases Bool.eq_false_or_eq_true (raE x) with a3 | a3
 rotate_left
 ·simp[a1,a2,a3]
 rcases Bool.eq_false_or_eq_true (tyE x) with a4 | a4
 rotate_left
 ·simp[a1,a2,a3,a4]
 rw[Q1b x hx a4,bS];rcases Bool.eq_false_or_eq_true (foE x) with a5 | a5
 rotate_left
 ·simp[a1,a2,a3,a4,a5]
 by_cases hz:z=0;·simp[a1,a2,a3,a4,a5,hz,bS]
 ·simp[a1,a2,a3,a4,a5,hz,bS]
theorem Bo(x:Q0)(hx:okE (.mk x)):Gh x=some (WV x):=by
 unfold Gh WV Nq;have hd:=r_depth (.mk x) hx 41 (by omega) (by omega)
 have hp:=r_part (.mk x) hx;rw[Q6.f_mk] at hd hp;rw[hd,bS,bS,r_Size x hx];by_cases h1:40<dpE (.mk x);·rw[if_pos h1,if_pos (by omega)]
 ·rw[if_neg h1,if_neg (by omega),bS]
  by_cases h2:2000< (Z1 (.mk x)).length;·rw[if_pos h2,if_pos (by omega)]
  ·rw[if_neg h2,if_neg (by omega),hp,bS]
end Go.Proofs.YtolcgikajjkjgaaGreatDoor
end
section
namespace Go.Proofs.YtolcgikajjkjgaaGreatDoor
open Go HY
set_option linter.unusedVariables false
set_option linter.unusedSimpArgs false
def cmpZ(a b:Int):Int:=if a<b then -1 else if b<a then 1 else 0
theorem Ro(a b:Int):cmpZ a b=0↔a=b:=by unfold cmpZ;grind
theorem ME(a b:Int):Zs a b=some (cmpZ a b):=by unfold Zs GF cmpZ;simp only[bS];grind
theorem On(a b:Int):Vb a b=some (cmpZ a b):=by unfold Vb UK cmpZ;simp only[bS];grind
theorem p_order(a b:Int):DP a b=some (cmpZ a b):=by unfold DP cmpZ;grind
theorem p_Or(l:List Int)(hl:l.length≤100):∃r,GN l=some r∧(r=0↔∀x∈l,x=0):=by
  have key:∀(t p:List Int),l=p++t→∃r,Yi 0 l l.length p.length=some r∧(match r with | .inl _=>∀x∈t,x=0 | .inr k=>k≠0∧¬ ∀x∈t,x=0):=by
    intro t
    induction t with
    | nil => intro p e; have : p.length = l.length := by rw [e]; simp
             exact⟨_,by rw[Yi,if_neg (by omega)],by simp⟩
    |cons c t ih=>
      intro p e;have a3:(p.length:Int)<l.length:=by rw[e];simp;omega
      rw[Yi,if_pos a3,YE e,bS,Zn (by omega) a3 (by omega)]
      by_cases hc:c=0
      · rw[if_neg (by simp[hc])]
        have:=ih (p++[c]) (by rw[e];simp)
        rw[show((p++[c]).length:Int)=(p.length:Int)+1 by simp] at this
        obtain⟨r,e1,e2⟩:=this;refine⟨r,e1,?_⟩;cases r with
        |inl u=>simpa[hc] using e2
        |inr k=>exact⟨e2.1,fun h=>e2.2 (fun x hx=>h x (by simp[hx]))⟩
      · exact⟨_,if_pos (by simp[hc]),hc,fun h=>hc (h c (by simp))⟩
  obtain⟨r,e1,e2⟩:=key l [] rfl;have a6:Yi 0 l l.length 0=some r:=e1;unfold GN;simp only[bS];rw[a6];cases r with
  |inl u=>exact⟨0,rfl,by simpa using e2⟩
  |inr k=>exact⟨k,rfl,⟨fun h=>absurd h e2.1,fun h=>absurd h e2.2⟩⟩
theorem Q16(s:Str):∃r,KY s []=some r∧(r=0↔s=[]):=by
 unfold KY Kl Xh;cases s with
 |nil=>exact⟨0,rfl,by simp⟩
 |cons a t=>exact⟨1,rfl,by simp⟩
theorem Q15(l:gLin):∃r,Ud l ⟨0,[]⟩=some r∧(r=0↔zLn l=true):=by
 unfold Ud YS zLn;cases l with
 |mk k t=>
  cases t with
  |nil=>
   simp only[bS];rw[QJ,if_neg (by simp)]
   simp only[bS,p_order];exact⟨cmpZ k 0,by simp,by simp[Ro]⟩
  |cons a t=>
   simp only[bS];rw[QJ,if_pos (by simp<;>omega)]
   refine⟨1,?_,by simp⟩
   rw[show ix (a::t) 0=some a from rfl];simp[bS]
theorem Q13(l:List Qf):∃r,Xl l []=some r∧(r=0↔l.length=0):=by
 unfold Xl;simp only[bS,ME];by_cases h:l.length=0
 ·have:l=[]:=List.eq_nil_of_length_eq_zero h;subst this;refine⟨0,?_,by simp⟩
  unfold YN;simp only[bS];rw[if_neg (by simp;rfl),Z3,if_neg (by simp)]
  simp[bS]
 ·have:cmpZ l.length (([]:List Qf).length:Nat)≠0:=by rw[Ne,Ro];simpa using h
  exact⟨_,if_pos (by simpa using this),⟨fun e=>absurd e this,fun e=>absurd e h⟩⟩
theorem Q12(l:List Q6):∃r,ZK l []=some r∧(r=0↔l.length=0):=by
 rw[ZK];simp only[bS,ME];by_cases h:l.length=0
 ·have:l=[]:=List.eq_nil_of_length_eq_zero h;subst this;refine⟨0,?_,by simp⟩
  rw[Xr];simp only[bS];rw[if_neg (by simp;rfl),Z8,if_neg (by simp)]
  simp[bS]
 ·have:cmpZ l.length (([]:List Q6).length:Nat)≠0:=by rw[Ne,Ro];simpa using h
  exact⟨_,if_pos (by simpa using this),⟨fun e=>absurd e this,fun e=>absurd e h⟩⟩
theorem EK(x:Q0):isZE x=true↔(x.fOp=0∧x.fName=[]∧x.fVal.fN=0∧x.fVal.fD=0∧(x.fType.fKind=0∧x.fType.fBits=0∧x.fType.fFrac=0∧x.fType.fRound=0∧x.fType.fOver=0)∧zLn x.fLin=true∧x.fIdx.length=0∧x.fArgs.length=0):=by
 unfold isZE;have e1:x.fType=zT↔(x.fType.fKind=0∧x.fType.fBits=0∧x.fType.fFrac=0∧x.fType.fRound=0∧x.fType.fOver=0):=by
  cases x.fType;simp[zT]
 rw[decide_eq_true_iff,e1]
theorem BV(x:Q0):UM x=some (isZE x):=by
 unfold UM ML;rw[bS,Vn,ME,On,On];unfold GO;rw[ME,ME,ME,ME,ME];simp only[bS];obtain⟨s,es,hs⟩:=Q16 x.fName;obtain⟨t,et,ht⟩:=p_Or [cmpZ x.fType.fKind 0,cmpZ x.fType.fBits 0,cmpZ x.fType.fFrac 0,cmpZ x.fType.fRound 0,cmpZ x.fType.fOver 0] (by simp)
 obtain⟨u,eu,hu⟩:=Q15 x.fLin;rw[es,et,eu];simp only[bS];obtain⟨v,ev,hv⟩:=p_Or [cmpZ x.fOp 0,s,cmpZ x.fVal.fN 0,cmpZ x.fVal.fD 0,t,u] (by simp)
 obtain⟨i,ei,hi⟩:=Q13 x.fIdx;obtain⟨a,ea,ha⟩:=Q12 x.fArgs;rw[ev,bS,ei,ea];simp only[bS,List.mem_cons,List.not_mem_nil,or_false,forall_eq_or_imp,forall_eq,Ro] at ht hv ⊢;have hz:=EK x;rw[← hu,← ht,← hs,← hi,← ha] at hz;by_cases h1:v=0
 ·rw[if_neg (by simp[h1])]
  by_cases h2:i=0
  ·rw[if_neg (by simp[h2]),bS,bS]
   congr 1;rw[Bool.eq_iff_iff,hz,beq_iff_eq];have:=hv.1 h1;constructor;·intro h;exact⟨this.1,this.2.1,this.2.2.1,this.2.2.2.1,this.2.2.2.2.1,this.2.2.2.2.2,h2,h⟩
   ·intro h;exact h.2.2.2.2.2.2.2
  ·rw[if_pos (by simp[h2]),bS,bS]
   congr 1;rw[Bool.eq_iff_iff,hz,beq_iff_eq];exact⟨fun h=>absurd h h2,fun h=>h.2.2.2.2.2.2.1⟩
 ·rw[if_pos (by simp[h1]),bS,bS]
  congr 1;rw[Bool.eq_iff_iff,hz,beq_iff_eq];exact⟨fun h=>absurd h h1,fun h=>absurd (hv.2 ⟨h.1,h.2.1,h.2.2.1,h.2.2.2.1,h.2.2.2.2.1,h.2.2.2.2.2.1⟩) h1⟩
theorem Q1c(x:Q0):JD x (Ka.mk (0:Int) [] (gVal.mk (0:Int) (0:Int)) (Q8.mk (0:Int) (0:Int) (0:Int) (0:Int) (0:Int)) (gLin.mk (0:Int) []) [] [])=some (isZE x):=by
 have hz:=EK x;have hl:∀l:gLin,Df l ⟨0,[]⟩=some (zLn l):=fun l=>by
  unfold Df zLn;cases l with
  |mk k t=>
   cases t with
   |nil=>
    by_cases hk:k=0
    ·subst hk;simp only[bS];rw[Ub];simp[bS]
    ·simp[hk,bS]
   |cons a t=>
    have h1:¬((t.length:Int)+1=0):=by omega
    by_cases hk:k=0<;>simp[hk,bS,h1]
 have hi:∀l:List Qf,De l []=some (decide (l.length=0)):=fun l=>by
  unfold De;cases l with
  |nil=>simp only[bS];rw[KX];simp[bS]
  |cons a t=>
   have h1:¬((t.length:Int)+1=0):=by omega
   simp[bS,h1]
 have ha:∀l:List Q6,GM l []=some (decide (l.length=0)):=fun l=>by
  rw[GM];cases l with
  |nil=>simp only[bS];rw[Je];simp[bS]
  |cons a t=>
   have h1:¬((t.length:Int)+1=0):=by omega
   simp[bS,h1]
 rw[JD,hl,hi,ha];simp only[bS];generalize zLn x.fLin=Z at*;generalize isZE x=Q at*;simp only[beq_iff_eq,Bool.and_eq_true,Bool.and_true]
 grind
theorem TC(x:Qq):plS x=true↔((x.fOp=1∨x.fOp=2∨x.fOp=3∨x.fOp=4)∧(x.fOp=4→x.fName=[])∧(x.fOp≠1→x.fMany=0∧x.fMark=0)∧(x.fOp≠3→x.fFold=0)∧(¬(x.fOp=2∨x.fOp=3)→x.fIdx.length=0)∧(x.fOp=1→isZE x.fExpr=true)∧(x.fOp=2∨x.fOp=3→x.fBody.length=0)):=by
 unfold plS;rw[decide_eq_true_iff]
theorem p_plain(x:Qq):UN x=some (plS x):=by
 have hq:=TC x;unfold UN;rw[BV];generalize plS x=Q at*;generalize isZE x.fExpr=Z at*;generalize x.fIdx.length=I at*;generalize x.fBody.length=J at*;have hJ:((J:Int)=0)↔J=0:=by omega
 simp only[bS,bI,Wc,Ds,if_true,if_false,Bool.false_eq_true,beq_iff_eq,bne_iff_ne,Bool.not_eq_true',beq_eq_false_iff_ne];by_cases h1:x.fOp=1;·simp[h1,hJ] at hq ⊢;grind
 by_cases h2:x.fOp=2;·simp[h2,hJ] at hq ⊢;grind
 by_cases h3:x.fOp=3;·simp[h3,hJ] at hq ⊢;grind
 by_cases h4:x.fOp=4;·simp[h4,hJ] at hq ⊢;grind
 simp[h1,h2,h3,h4] at hq ⊢;grind
theorem Q1d(x:Qq):Cf x=some (plS x):=by
 have hq:=TC x;unfold Cf;simp only[bS,Q1c];generalize plS x=Q at*;generalize isZE x.fExpr=Z at*;generalize x.fIdx.length=I at*;generalize x.fBody.length=J at*;have hJ:((J:Int)=0)↔J=0:=by omega
 simp only[bS,bI,Wc,Ds,if_true,if_false,Bool.false_eq_true,beq_iff_eq,bne_iff_ne,Bool.not_eq_true',beq_eq_false_iff_ne];by_cases h1:x.fOp=1;·simp[h1,hJ] at hq ⊢;grind
 by_cases h2:x.fOp=2;·simp[h2,hJ] at hq ⊢;grind
 by_cases h3:x.fOp=3;·simp[h3,hJ] at hq ⊢;grind
 by_cases h4:x.fOp=4;·simp[h4,hJ] at hq ⊢;grind
 simp[h1,h2,h3,h4] at hq ⊢;grind
end Go.Proofs.YtolcgikajjkjgaaGreatDoor
end
section
namespace Go.Proofs.YtolcgikajjkjgaaGreatDoor
open Go HY
set_option linter.unusedVariables false
set_option linter.unusedSimpArgs false
def okBf(b:Qc):Prop:=b.fDims.length*8≤140737488351232
def okBs(l:List Qc):Prop:=l.length≤140737488351232∧∀b∈l,okBf b
theorem Fy(b:Qc)(h:okBf b):Jf b=some b:=by
 unfold Jf Us;unfold okBf at h;rw[if_pos (by omega)];rfl
theorem Rk(b:Qc)(l:List Qc)(s:Str):Xw (b::l) s=if(b.fName==s)=true then some b else Xw l s:=by
 unfold Xw;rw[List.find?_cons];cases b.fName==s<;>rfl
theorem Mh(n:Qi)(s:Str)(h:okBs n.fBufs):Ya n s=some ((Xw n.fBufs s).getD zBuf,(Xw n.fBufs s).isSome):=by
 obtain⟨hl,hb⟩:=h;have hL:ZD s n zBuf n.fBufs.length 0=some (match Xw n.fBufs s with | some b=>.inr (b,true) | none=>.inl zBuf):=by
  refine Y7 (α:=Unit) (F:=fun _ i=>ZD s n zBuf n.fBufs.length i) (l:=n.fBufs) (fun _ _=>True) (fun _ t=>match Xw t s with | some b=>.inr (b,true) | none=>.inl zBuf) ?_ ?_ () trivial
  ·intro _ _;rw[ZD,if_neg (by omega)];rfl
  ·intro i y t _ h0 h1 hm a3 _ ih;rw[ZD,if_pos h1,a3,bS,bS,Fy y (hb y hm),bS,Zn h0 h1 (by omega),ih () trivial,Rk]
   cases y.fName==s<;>rfl
 unfold Ya;simp only[bS];rw[show(Qc.mk [] (Q8.mk (0:Int) (0:Int) (0:Int) (0:Int) (0:Int)) [] (0:Int))=zBuf from rfl,hL];cases Xw n.fBufs s<;>rfl
theorem Mj(n:Qi)(s:Str)(h:okBs n.fBufs):Ku n s=some ((Xw n.fBufs s).getD zBuf,(Xw n.fBufs s).isSome):=by
 obtain⟨hl,hb⟩:=h;have hL:Xq s n zBuf 0=some (match Xw n.fBufs s with | some b=>.inr (b,true) | none=>.inl zBuf):=by
  refine Y7 (α:=Unit) (F:=fun _ i=>Xq s n zBuf i) (l:=n.fBufs) (fun _ _=>True) (fun _ t=>match Xw t s with | some b=>.inr (b,true) | none=>.inl zBuf) ?_ ?_ () trivial
  ·intro _ _;rw[Xq,bS,if_neg (by omega)];rfl
  ·intro i y t _ h0 h1 hm a3 _ ih;rw[Xq,bS,if_pos h1,a3,bS,bS,Zn h0 h1 (by omega),ih () trivial,Rk]
   cases y.fName==s<;>rfl
 unfold Ku;simp only[bS];rw[show(Qc.mk [] (Q8.mk (0:Int) (0:Int) (0:Int) (0:Int) (0:Int)) [] (0:Int))=zBuf from rfl,hL];cases Xw n.fBufs s<;>rfl
theorem p_cfB(l:List Qc)(b:Qc)(hl:l.length≤4611686018427387904):X2 l b=some (l.any fun x=>x.fName==b.fName):=by
 obtain⟨r,e,h⟩:=idxF (l:=l) (q:=fun x=>x.fName==b.fName) (L:=QP l b l.length) hl (fun i=>by rw[QP]) (fun x _=>by unfold Jx;rfl)
 unfold X2 K4;simp only[bS];rw[e];cases r with
 |inl a=>simp only[bS];rw[h];rfl
 |inr k=>simp only[bS];rw[h.2];simp[h.1]
theorem p_bufs(l:List Qc)(hl:l.length≤140737488351232):V4 l=some (Kv [] l):=by
 have key:∀(t p:List Qc),l=p++t→Z7 l l.length p.length=some (if Kv p t≠0 then .inr (Kv p t) else .inl ()):=by
  intro t
  induction t with
  |nil=>
   intro p e;have:p.length=l.length:=by rw[e];simp
   rw[Z7,if_neg (by omega)];simp[Kv]
  |cons b t ih=>
   intro p e;have a7:(p.length:Int)<l.length:=by rw[e];simp;omega
   have ih:=ih (p++[b]) (by rw[e];simp)
   rw[show((p++[b]).length:Int)=(p.length:Int)+1 by simp] at ih
   have aa:List.drop 0 (List.take ((p.length:Int)).toNat l)=p:=by rw[Int.toNat_natCast,e];simp
   have a8:(0:Int)≤0∧(0:Int)≤(p.length:Int)∧(p.length:Int)≤((List.map Q7 l).length:Int):=⟨by omega,by omega,by rw[List.length_map];omega⟩
   rw[Z7,if_pos a7,YE e,bS,LQ,bS,if_pos a8,aa,bS,p_cfB p b (by omega),bS,WE,bS,Oo,bS,bS,Zn (by omega) a7 (by omega),ih]
   rw[Kv];rcases Bool.eq_false_or_eq_true (nm b.fName) with a1 | a1
   rotate_left
   ·simp[a1]
   rcases Bool.eq_false_or_eq_true (p.any fun x=>x.fName==b.fName) with a2 | a2
   ·simp[a1,a2]
   rcases Bool.eq_false_or_eq_true (tyOK b.fType) with a3 | a3
   rotate_left
   ·simp[a1,a2,a3]
   by_cases a4:DB b.fDims=0
   rotate_left
   ·simp[a1,a2,a3,a4]
   by_cases a5:b.fUse<1;·simp[a1,a2,a3,a4,a5,bS]
   by_cases a6:3<b.fUse;·simp[a1,a2,a3,a4,a5,a6,bS]
   ·simp[a1,a2,a3,a4,a5,a6,bS]
 have h0:Z7 l l.length 0=_:=key l [] rfl;unfold V4;simp only[bS];rw[h0];by_cases hz:Kv [] l=0<;>simp[hz,bS]
theorem BY(n:Qi)(b:Qc)(p t:List Qc)(e:n.fBufs=p++t)(hl:n.fBufs.length≤140737488351232):Yo n p.length b 0=some (if(p.all fun x=> !(x.fName==b.fName)) then .inl () else .inr 8):=by
 refine NN (l:=p) (q:=fun x=> !(x.fName==b.fName)) (L:=Yo n p.length b) (by rw[e] at hl;simp at hl;omega) (by rw[Yo,if_neg (by omega)]) (fun i y h0 h1 hm a3=> ?_)
 have a4:ix n.fBufs i=some y:=by
  unfold ix at a3 ⊢;rw[if_pos h0] at a3 ⊢;rw[e,List.getElem?_append_left (List.getElem?_eq_some_iff.1 a3).1];exact a3
 rw[Yo,if_pos h1,a4,bS];cases y.fName==b.fName<;>simp
theorem all_not{α:Type}(q:α→Bool)(l:List α):(l.all fun x=> !(q x))= !(l.any q):=by
 induction l with
 |nil=>rfl
 |cons a t ih=>rw[List.all_cons,List.any_cons,ih];cases q a<;>simp
theorem r_bufs(n:Qi)(hl:n.fBufs.length≤140737488351232):CV n=some (Kv [] n.fBufs):=by
 have key:∀(t p:List Qc),n.fBufs=p++t→Yn n p.length=some (if Kv p t≠0 then .inr (Kv p t) else .inl ()):=by
  intro t
  induction t with
  |nil=>
   intro p e;have:p.length=n.fBufs.length:=by rw[e];simp
   rw[Yn,bS,if_neg (by omega)];simp[Kv]
  |cons b t ih=>
   intro p e;have a7:(p.length:Int)<n.fBufs.length:=by rw[e];simp;omega
   have ih:=ih (p++[b]) (by rw[e];simp)
   rw[show((p++[b]).length:Int)=(p.length:Int)+1 by simp] at ih
   rw[Yn,bS,if_pos a7,YE e,bS,C5,bS,bS,BY n b p _ e hl,all_not];rw[Kv];rcases Bool.eq_false_or_eq_true (nm b.fName) with a1 | a1
   rotate_left
   ·simp[a1]
   rcases Bool.eq_false_or_eq_true (p.any fun x=>x.fName==b.fName) with a2 | a2
   ·simp[a1,a2,bS]
   simp only[a1,a2,Bool.not_false,if_true,bS,r_Type,Ot,Zn (show(0:Int)≤p.length by omega) a7 (by omega),ih]
   rcases Bool.eq_false_or_eq_true (tyOK b.fType) with a3 | a3
   rotate_left
   ·simp[a3]
   by_cases a4:DB b.fDims=0
   rotate_left
   ·simp[a3,a4]
   by_cases a5:b.fUse<1;·simp[a3,a4,a5,bS]
   by_cases a6:3<b.fUse;·simp[a3,a4,a5,a6,bS]
   ·simp[a3,a4,a5,a6,bS]
 have h0:Yn n 0=_:=key n.fBufs [] rfl;unfold CV;simp only[bS];rw[h0];by_cases hz:Kv [] n.fBufs=0<;>simp[hz,bS]
theorem dp_f(s:Qb):dp s=1+dpL s.f.fBody:=by
 cases s with
 |mk x=>rw[dp];simp[dpL,Qb.f]
theorem okS.f{s:Qb}(h:okS s):okSs s.f.fBody:=by
 cases s with
 |mk x=>exact h.of.2.2.2
theorem UH{P:List Qb→Prop}(h:∀l,okSs l→(∀s∈l,P s.f.fBody)→P l):∀l,okSs l→P l:=by
 have key:∀s:Qb,okS s→P s.f.fBody:=Qb.ind fun x ih hx=>by
  have hb:=hx.of.2.2.2;exact h _ hb fun s hs=>ih s hs (hb.2 s hs)
 exact fun l hl=>h l hl fun s hs=>key s (hl.2 s hs)
theorem Q19:∀l,okSs l→∀m:Int,0≤m→m≤1000→Yb l m=some (decide ((dpL l:Int)≤m)):=UH fun l hl ih m h0 h1=>by
 have a3:l.length≤4611686018427387904:=by have:=hl.1;omega
 have hL:ZE l m l.length 0=some (if l.all (fun s=>decide ((dp s:Int)≤m)) then .inl () else .inr false):=by
  refine NN (L:=ZE l m l.length) a3 (by rw[ZE,if_neg (by omega)]) (fun i y h2 h3 hm a5=> ?_)
  rw[ZE,if_pos h3,bS,a5,omS,bS];by_cases hc:m<1;·rw[if_pos hc,bS,if_pos rfl,if_neg (by simp[dp_f];omega)]
  ·rw[if_neg hc,Z2 (n:=m - 1) (by omega),ih y hm (m - 1) (by omega) (by omega),bS]
   by_cases hd:(dpL y.f.fBody:Int)≤m - 1
   ·have:(dp y:Int)≤m:=by rw[dp_f];omega
    simp[hd,this,bS]
   ·have:¬(dp y:Int)≤m:=by rw[dp_f];omega
    simp[hd,this,bS]
 have a4:l.all (fun s=>decide ((dp s:Int)≤m))=decide ((dpL l:Int)≤m):=by
  unfold dpL;clear hL ih hl a3
  induction l with
  |nil=>simp[maxL,h0]
  |cons a t ih=>
   rw[List.all_cons,ih,List.map_cons,IS,Bool.eq_iff_iff,Bool.and_eq_true,decide_eq_true_iff,decide_eq_true_iff,decide_eq_true_iff];omega
 rw[Yb];simp only[bS];rw[hL,a4];by_cases hc:(dpL l:Int)≤m<;>simp[hc,bS]
theorem Q1a:∀l,okSs l→∀m:Int,0≤m→m≤1000→V1 l m=some (min (dpL l:Int) m):=UH fun l hl ih m ac ad=>by
 have e1:=hl.1;have L:X9 l m 0 0=some (max 0 (min (dpL l:Int) m)):=by
  by_cases hm:m=0
  ·subst hm;rw[X9];simp
   try omega
  refine Y7 (F:=fun a i=>X9 l m a i) (l:=l) (fun a t=>0≤a∧a≤m) (fun a t=>max a (min (dpL t:Int) m)) ?_ ?_ _ (by omega)
  ·intro a hI;rw[X9];simp[dpL,maxL];omega
  ·intro i v t a h0 h1 hv a3 hI a7;rw[X9];have hw:=Zn h0 h1 (by omega)
   have a5:wr (m - 1)=m - 1:=Z2 (by omega)
   have a6:wr (1+min (dpL v.f.fBody:Int) (m - 1))=1+min (dpL v.f.fBody:Int) (m - 1):=Z2 (by omega)
   have a4:0<m:=by omega
   simp only[Option.bind_eq_bind,Option.bind_some,h1,if_true,a4,a3,Option.map_some,a5,ih v hv (m - 1) (by omega) (by omega),a6,hw]
   rw[a7 _ (by omega)]
   have:dpL (v::t)=max (dp v) (dpL t):=rfl;rw[this,dp_f];congr 1;omega
 rw[V1];simp only[Option.bind_eq_bind,Option.bind_some,L];congr 1;omega
theorem sz_f(s:Qb):sz s=1+szL s.f.fBody:=by
 cases s with
 |mk x=>rw[sz];simp[szL,Qb.f]
theorem LY(s:Qb)(l:List Qb):szL (s::l)=sz s+szL l:=by simp[szL]
def szB(l:List Qb):Nat:=(l.map fun s=>szL s.f.fBody).sum
theorem szL_B(l:List Qb):szL l=l.length+szB l:=by
 induction l with
 |nil=>rfl
 |cons s t ih=>rw[LY,sz_f,ih];simp[szB];omega
theorem FV(s:Qb)(t:List Qb):szB (s::t)=szL s.f.fBody+szB t:=by simp[szB]
abbrev cntQ(T k r:Int):Prop:=(T≤k→r=T)∧(k<T→k<r)∧r≤k+549755813888
theorem p_count:∀l,okSs l→∀k:Int,0≤k→k≤2000→wp (ZZ l k) (cntQ (szL l) k):=UH fun l hl ih k h0 h1=>by
 have e1:=hl.1;rw[ZZ];simp only[bS];have hL:wp (Zo l k l.length l.length 0) (cntQ (szL l) k):=by
  refine Od (F:=fun c i=>Zo l k c l.length i) (l:=l) (fun c t=>0≤c∧c≤k+549755813888∧(c+szB t=(szL l:Int)∨(k<c∧k< (szL l:Int)))) ?_ ?_ _ ⟨by omega,by omega,.inl (by rw[szL_B];omega)⟩
  ·intro c hI;rw[Zo,if_neg (by omega)]
   refine Y8.2 ?_;simp[szB] at hI;unfold cntQ;omega
  ·intro i y t c h2 h3 hm a5 _ hI a7;rw[Zo,if_pos h3];rw[FV] at hI;by_cases hc:k<c
   ·rw[if_pos hc];refine Y8.2 ?_;unfold cntQ;omega
   ·rw[if_neg hc,a5,omS,bS,Z2 (n:=k - c) (by omega),Zn h2 h3 (by omega)]
    obtain⟨r,er,hr⟩:=ih y hm (k - c) (by omega) (by omega)
    rw[er,bS,bS];unfold cntQ at hr;rw[Z2 (n:=c+r) (by omega)]
    exact a7 _ ⟨by omega,by omega,by omega⟩
 obtain⟨r,er,hr⟩:=hL;rw[er,bS];exact Y8.2 hr
theorem r_sizeS:∀l,okSs l→∀k:Int,0≤k→k≤2000→wp (VT l k) (cntQ (szL l) k):=UH fun l hl ih k h0 h1=>by
 have e1:=hl.1;rw[VT];simp only[bS];have hL:wp (Yq l k l.length 0) (cntQ (szL l) k):=by
  refine Od (F:=fun c i=>Yq l k c i) (l:=l) (fun c t=>0≤c∧c≤k+549755813888∧(c+szB t=(szL l:Int)∨(k<c∧k< (szL l:Int)))) ?_ ?_ _ ⟨by omega,by omega,.inl (by rw[szL_B];omega)⟩
  ·intro c hI;rw[Yq,bS,bS,if_neg (by omega)]
   simp only[bS,if_false,Bool.false_eq_true];refine Y8.2 ?_;simp[szB] at hI;unfold cntQ;omega
  ·intro i y t c h2 h3 hm a5 _ hI a7;rw[Yq,bS,bS,if_pos h3];rw[FV] at hI;by_cases hc:c≤k
   ·rw[if_pos hc,bS,if_pos rfl];simp only;rw[a5,omS,bS,Z2 (n:=k - c) (by omega),Zn h2 h3 (by omega)]
    simp only[if_true];rw[show max 0 (k - c)=k - c by omega]
    obtain⟨r,er,hr⟩:=ih y hm (k - c) (by omega) (by omega)
    rw[er,bS,bS];unfold cntQ at hr;rw[Z2 (n:=c+r) (by omega)]
    exact a7 _ ⟨by omega,by omega,by omega⟩
   ·rw[if_neg hc];simp only[bS,if_false,Bool.false_eq_true];refine Y8.2 ?_;unfold cntQ;omega
 obtain⟨r,er,hr⟩:=hL;rw[er,bS];exact Y8.2 hr
end Go.Proofs.YtolcgikajjkjgaaGreatDoor
end
section
namespace Go.Proofs.YtolcgikajjkjgaaGreatDoor
open Go HY
set_option linter.unusedVariables false
set_option linter.unusedSimpArgs false
theorem p_cfM(l:List Zp)(c:Q1)(hl:l.length≤4611686018427387904)(hs:c.fscope.length≤4611686018427387904):Xd l c=some (l.any fun m=> !(c.fscope.contains m.fName)):=by
 obtain⟨r,e,h⟩:=idxF (l:=l) (q:=fun m=> !(c.fscope.contains m.fName)) (L:=QW l c l.length) hl (fun i=>by rw[QW]) (fun x _=>by unfold Vp;rw[LP _ _ hs];rfl)
 unfold Xd Km;simp only[bS];rw[e];cases r with
 |inl a=>simp only[bS];rw[h];rfl
 |inr k=>simp only[bS];rw[h.2];simp[h.1]
theorem IZ(c:Q1)(l:gLin)(hl:okL l)(hs:c.fscope.length≤4611686018427387904):ZU c l=some (inS c.fscope l):=by
 unfold ZU inS;rw[p_cfM _ _ (by have:=hl.2.1;omega) hs,bS,L3]
theorem p_cfL(l:List gLin)(c:Q1)(hl:l.length≤4611686018427387904)(ha:∀a∈l,okL a)(hs:c.fscope.length≤4611686018427387904):Xs l c=some (l.any fun a=> !(inS c.fscope a)):=by
 obtain⟨r,e,h⟩:=idxF (l:=l) (q:=fun a=> !(inS c.fscope a)) (L:=QY l c l.length) hl (fun i=>by rw[QY]) (fun x hx=>by unfold Jy;rw[IZ _ _ (ha x hx) hs];rfl)
 unfold Xs KA;simp only[bS];rw[e];cases r with
 |inl a=>simp only[bS];rw[h];rfl
 |inr k=>simp only[bS];rw[h.2];simp[h.1]
theorem BW(c:Q1)(l:List Qf)(hl:l.length≤4611686018427387904)(hi:∀i∈l,okI i)(hs:c.fscope.length≤4611686018427387904)(b:Bool):QB c b l l.length 0=some (b&&l.all fun i=>(X6 i).all (inS c.fscope)):=by
 refine Y7 (F:=fun b i=>QB c b l l.length i) (l:=l) (fun _ _=>True) (fun b t=>b&&t.all fun i=>(X6 i).all (inS c.fscope)) ?_ ?_ b trivial
 ·intro b _;rw[QB,if_neg (by omega)];simp
 ·intro i y t b h0 h1 hm a3 _ ih;have hy:=hi y hm;rw[QB,if_pos h1,a3,bS,IZ c y.fLin hy.1 hs,bS,p_cfL y.fAt c (by have:=hy.2.1;omega) hy.2.2 hs,bS,Zn h0 h1 hl,ih _ trivial,ih _ trivial,L3]
  simp only[X6,List.all_cons];cases b<;>cases inS c.fscope y.fLin<;>simp
theorem Bj(c:Q1)(l:List Qf)(hl:l.length≤4611686018427387904)(hb:okBs c.fnest.fBufs):QG c l l.length 0=some (if Kb c.fnest l≠0 then .inr (Kb c.fnest l) else .inl ()):=by
 refine Y7 (α:=Unit) (F:=fun _ i=>QG c l l.length i) (l:=l) (fun _ _=>True) (fun _ t=>if Kb c.fnest t≠0 then .inr (Kb c.fnest t) else .inl ()) ?_ ?_ () trivial
 ·intro _ _;rw[QG,if_neg (by omega)];simp[Kb]
 ·intro i y t _ h0 h1 hm a3 _ ih;rw[QG,if_pos h1,a3,bS,Mh _ _ hb,bS,bS,bS,Zn h0 h1 hl,ih () trivial,Kb];by_cases hf:y.fFrom=[];·simp[hf]
  ·simp only[hf,if_false,beq_iff_eq];cases Xw c.fnest.fBufs y.fFrom with
   |none=>simp
   |some b=>
    by_cases h2:b.fType.fKind=3
    ·by_cases h3:b.fDims.length=y.fAt.length;·simp[h2,h3]
     ·simp[h2,h3];omega
    ·simp[h2]
theorem RA(n:Qi)(sc:List Str)(x:Q0):Vs n sc x=if(inS sc x.fLin&&x.fIdx.all fun i=>(X6 i).all (inS sc))=false then 9 else if x.fOp≠3 then 0 else match Xw n.fBufs x.fName with
 |none=>9
 |some b=>if b.fDims.length≠x.fIdx.length then 11 else Kb n x.fIdx:=by
 unfold Vs;have:(JA x).all (inS sc)=(inS sc x.fLin&&x.fIdx.all fun i=>(X6 i).all (inS sc)):=by
  unfold JA;rw[List.all_cons];congr 1;generalize x.fIdx=l
  induction l with
  |nil=>rfl
  |cons a t ih=>simp only[List.map_cons,List.flatten_cons,List.all_append,List.all_cons];rw[ih]
 rw[this]<;>rfl
theorem p_node(c:Q1)(x:Q0)(hx:okE (.mk x))(hb:okBs c.fnest.fBufs)(hs:c.fscope.length≤4611686018427387904):V6 c x=some (Vs c.fnest c.fscope x):=by
 obtain⟨h1,h2,h3,h4,h5⟩:=hx.of;have hI:x.fIdx.length≤4611686018427387904:=by omega
 rw[RA];unfold V6;rw[IZ c _ h1 hs];simp only[bS];rw[BW c _ hI h3 hs,bS];generalize (inS c.fscope x.fLin&&x.fIdx.all fun i=>(X6 i).all (inS c.fscope))=A
 rw[Mh _ _ hb,Bj c _ hI hb];simp only[bS];cases A with
 |false=>simp
 |true=>
  by_cases ho:x.fOp=3
  ·simp only[ho,if_true,bne_self_eq_false,Bool.false_eq_true,if_false];cases Xw c.fnest.fBufs x.fName with
   |none=>simp
   |some b=>
    by_cases h6:b.fDims.length=x.fIdx.length
    ·by_cases h7:Kb c.fnest x.fIdx=0;·simp[h6,h7,bS]
     ·simp[h6,h7,bS]
    ·have:¬(b.fDims.length:Int)=x.fIdx.length:=by omega
     simp[h6,this]
  ·simp[ho]
theorem AW{α:Type}(f:α→Str)(l:List α)(s:Str):(l.map f).contains s=l.any fun b=>f b==s:=by
 induction l with
 |nil=>rfl
 |cons a t ih=>
  rw[List.map_cons,List.contains_cons,List.any_cons,ih];congr 1;rw[Bool.eq_iff_iff,beq_iff_eq,beq_iff_eq];exact eq_comm
theorem Bp(ls:List gLin)(bs:List Qt)(i k:Int)(a:gLin)(m:Zp)(hi:ix ls i=some a)(hk:ix a.fL k=some m)(hl:bs.length≤4611686018427387904)(b:Bool):X8 ls bs i k b 0=some (b || bs.any fun y=>y.fName==m.fName):=by
 refine Y7 (F:=fun b j=>X8 ls bs i k b j) (l:=bs) (fun _ _=>True) (fun b t=>b || t.any fun y=>y.fName==m.fName) ?_ ?_ b trivial
 ·intro b _;rw[X8,bS,if_neg (by omega)];simp
 ·intro j y t b h0 h1 hm a3 _ ih;rw[X8,bS,if_pos h1,a3,bS,hi,bS,hk,bS,Zn h0 h1 hl,ih _ trivial,ih _ trivial,List.any_cons];cases b<;>simp
theorem Oq(ls:List gLin)(bs:List Qt)(h1:ls.length≤4611686018427387904)(h2:∀a∈ls,okL a)(hl:bs.length≤4611686018427387904):Gr ls bs=some (ls.all (inS (bs.map (·.fName)))):=by
 have h5:∀(i:Int) (a:gLin),ix ls i=some a→okL a→XX ls bs i 0=some (if a.fL.all (fun m=>(bs.map (·.fName)).contains m.fName) then .inl () else .inr false):=fun i a hi ha=>by
  refine NN (L:=XX ls bs i) (by have:=ha.2.1;omega) (by rw[XX,hi,bS,bS,if_neg (by omega)]) (fun k m h3 h4 hm hk=> ?_)
  rw[XX,hi,bS,bS,if_pos h4,bS,Bp ls bs i k a m hi hk hl,bS,AW,Bool.false_or]
 have hL:XW ls bs 0=some (if ls.all (inS (bs.map (·.fName))) then .inl () else .inr false):=by
  refine NN (L:=XW ls bs) h1 (by rw[XW,bS,if_neg (by omega)]) (fun i a h3 h4 hm hi=> ?_)
  rw[XW,bS,if_pos h4,bS,h5 i a hi (h2 a hm)];unfold inS;cases a.fL.all (fun m=>(bs.map (·.fName)).contains m.fName)<;>simp[bS]
 unfold Gr;rw[bS,hL];cases ls.all (inS (bs.map (·.fName)))<;>rfl
theorem r_lins(l:List Qf)(hl:l.length≤6)(ha:∀i∈l,i.fAt.length≤6):CX l=some (l.map X6).flatten:=by
 have key:∀(t p:List Qf),l=p++t→((p.map X6).flatten).length≤7*p.length→Yp l (p.map X6).flatten p.length=some (l.map X6).flatten:=by
  intro t
  induction t with
  |nil=>
   intro p e _;have:p.length=l.length:=by rw[e];simp
   rw[Yp,bS,if_neg (by omega)];simp at e;rw[e]
  |cons i t ih=>
   intro p e hp;have a3:(p.length:Int)<l.length:=by rw[e];simp;omega
   have hA:=ha i (by rw[e];simp)
   have ih:=ih (p++[i]) (by rw[e];simp) (by rw[List.map_append,List.flatten_append,List.length_append];simp only[List.map_cons,List.map_nil,List.flatten_cons,List.flatten_nil,List.append_nil,X6,List.length_cons,List.length_append,List.length_nil];omega)
   rw[show((p++[i]).length:Int)=(p.length:Int)+1 by simp,show((p++[i]).map X6).flatten=((p.map X6).flatten++[i.fLin])++i.fAt by simp[X6]] at ih
   rw[Yp,bS,if_pos a3,YE e,bS,if_pos (by omega),bS,bS,if_pos (by rw[List.length_append,List.length_map];simp only[List.length_singleton];omega),bS,Zn (by omega) a3 (by omega)]
   exact ih
 unfold CX;simp only[bS];have h0:Yp l [] 0=_:=key l [] rfl (by simp)
 rw[h0,bS]
theorem Br(n:Qi)(x:Q0)(hl:x.fIdx.length≤4611686018427387904)(hb:okBs n.fBufs):Xa n x 0=some (if Kb n x.fIdx≠0 then .inr (Kb n x.fIdx) else .inl ()):=by
 refine Y7 (α:=Unit) (F:=fun _ i=>Xa n x i) (l:=x.fIdx) (fun _ _=>True) (fun _ t=>if Kb n t≠0 then .inr (Kb n t) else .inl ()) ?_ ?_ () trivial
 ·intro _ _;rw[Xa,bS,if_neg (by omega)];simp[Kb]
 ·intro i y t _ h0 h1 hm a3 _ ih;rw[Xa,bS,if_pos h1,a3,bS,bS,Mj _ _ hb,bS,bS,bS,bS,Zn h0 h1 hl,ih () trivial,Kb];by_cases hf:y.fFrom=[];·simp[hf]
  ·simp only[hf,if_false,beq_iff_eq];cases Xw n.fBufs y.fFrom with
   |none=>simp
   |some b=>
    by_cases h2:b.fType.fKind=3
    ·by_cases h3:b.fDims.length=y.fAt.length;·simp[h2,h3]
     ·simp[h2,h3];omega
    ·simp[h2]
theorem Dx{x:Q0}(h:raE x=true):(x.fArgs.length:Int)=Wd x.fOp∧x.fIdx.length≤6∧∀i∈x.fIdx,i.fAt.length≤6:=by
 unfold raE at h;rw[Bool.and_eq_true,decide_eq_true_iff,List.all_eq_true] at h;exact⟨h.1.1,h.1.2,fun i hi=>by simpa using h.2 i hi⟩
theorem r_node(n:Qi)(bs:List Qt)(x:Q0)(hx:okE (.mk x))(hr:raE x=true)(hb:okBs n.fBufs)(hs:bs.length≤4611686018427387904):CY n bs x=some (Vs n (bs.map (·.fName)) x):=by
 obtain⟨h1,h2,h3,h4,h5⟩:=hx.of;obtain⟨r1,r2,r3⟩:=Dx hr;have hI:x.fIdx.length≤4611686018427387904:=by omega
 have a4:((x.fIdx.map X6).flatten).length≤4611686018427387904:=by
  have:∀l:List Qf,(∀i∈l,i.fAt.length≤6)→((l.map X6).flatten).length≤7*l.length:=by
   intro l
   induction l with
   |nil=>intro _;simp
   |cons a t ih=>intro h;have:=ih (fun i hi=>h i (by simp[hi]));have:=h a (by simp);simp[X6] at*;omega
  have:=this _ r3;omega
 have a5:∀a∈ (x.fIdx.map X6).flatten,okL a:=fun a ha=>S5 h1 h3 a (by unfold JA;simp[ha])
 rw[RA];unfold CY;simp only[bS];rw[Oq [x.fLin] bs (by simp) (by simpa using h1) hs,r_lins _ r2 r3]
 simp only[bS];rw[Oq _ bs a4 a5 hs,Mj _ _ hb,Br n x hI hb];simp only[bS];have e1:[x.fLin].all (inS (bs.map (·.fName)))=inS (bs.map (·.fName)) x.fLin:=by simp
 have e2:((x.fIdx.map X6).flatten).all (inS (bs.map (·.fName)))=x.fIdx.all fun i=>(X6 i).all (inS (bs.map (·.fName))):=by
  generalize x.fIdx=l
  induction l with
  |nil=>rfl
  |cons a t ih=>simp only[List.map_cons,List.flatten_cons,List.all_append,List.all_cons];rw[ih]
 rw[e1,e2];generalize inS (bs.map (·.fName)) x.fLin=A;generalize (x.fIdx.all fun i=>(X6 i).all (inS (bs.map (·.fName))))=B
 have a3:(if(x.fOp !=(3:Int))=true then some (0:Int) else(if(Xw n.fBufs x.fName).isSome=true then(if(((((Xw n.fBufs x.fName).getD zBuf).fDims.length:Nat):Int) !=(x.fIdx.length:Int))=true then some 11 else((some (if Kb n x.fIdx≠0 then .inr (Kb n x.fIdx) else .inl ()):Option (Unit ⊕ Int))>>=fun a6=>(match a6 with | (.inl v12)=>some (0:Int) | (.inr v13)=>some v13))) else some 9))=some (if x.fOp≠3 then 0 else match Xw n.fBufs x.fName with | none=>9 | some b=>if b.fDims.length≠x.fIdx.length then 11 else Kb n x.fIdx):=by
  by_cases ho:x.fOp=3
  ·simp only[ho,if_true,bne_self_eq_false,Bool.false_eq_true,if_false];cases Xw n.fBufs x.fName with
   |none=>simp
   |some b=>
    by_cases h6:b.fDims.length=x.fIdx.length
    ·by_cases h7:Kb n x.fIdx=0;·simp[h6,h7,bS]
     ·simp[h6,h7,bS]
    ·have:¬(b.fDims.length:Int)=x.fIdx.length:=by omega
     simp[h6,this]
  ·simp[ho]
 cases A with
 |false=>simp[bS]
 |true=>
  cases B with
  |false=>simp[bS]
  |true=>
   simp only[if_true,bS,Bool.true_and,Bool.true_eq_false,Bool.false_eq_true,if_false];exact a3
end Go.Proofs.YtolcgikajjkjgaaGreatDoor
end
