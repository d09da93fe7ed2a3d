/- Proved in the last of these texts: for every input the law returns true and its arguments read afterwards as they read before. This text: a part of the proof. -/
import Derived.Test.YtolcgikajjkjgaaGreatDoorP5
set_option linter.unusedVariables false
set_option linter.unusedSimpArgs false
noncomputable section
namespace Go.Proofs.YtolcgikajjkjgaaGreatDoor
open Go HY
set_option maxRecDepth 1000000
set_option linter.unusedVariables false
def Uv(s:((List Qe)×Int))(u:Unit)(o:Int):List Alt:=[⟨fun(x:Int)=>x=o,.exit 0,fun x=>[ii x],fun x=>[]⟩]
def Jc(s:((List Qe)×Int))(u:(Int×Int))(o:Bool):List Alt:=jb o (fun b=>[.sl 20 (List.map Qh (s.1)),ii (s.2),ii (u.1),ii (u.2),.bool b]) []
mutual
def Vu(x0:List Qe)(x1:Int):Option Int:=
 some ()>>=fun v0=>
 Xp x0 x1 (0:Int) (0:Int)>>=fun v2=>
 some v2
 partial_fixpoint
def Xp(x0:List Qe)(x1:Int)(x5:Int)(x6:Int):Option Int:=
 some (x5,x6)>>=fun v0=>
 (some (List.length x0:Int)>>=fun v2=>
 if x6<v2 then
 if(0:Int)<x1 then
 some true
 else
 some false
 else
 some false)>>=fun v1=>if v1 then
 Option.map Qe.f (ix x0 v0.snd)>>=fun v4=>
 Vu v4.fBody (wr (x1 - (1:Int)))>>=fun v5=>
 Xp x0 x1 (if true=true then max v0.fst (wr ((1:Int)+v5)) else min v0.fst (wr ((1:Int)+v5))) (wr (v0.snd+(1:Int)))
 else
 some v0.fst
 partial_fixpoint
end
theorem Sg:(∀(x0:List Qe) (x1:Int) (r:Int),Vu x0 x1=some r→PU 53 [X8 x0,eI x1] (eI r))∧(∀(x0:List Qe) (x1:Int) (x5:Int) (x6:Int) (o:Int),Xp x0 x1 x5 x6=some o→LO 53 3 29 [0,1,5,6] [.sl 20 (List.map Qh x0),ii x1,ii x5,ii x6] [] [5] (Uv (x0,x1) () o)):=
 Vu.mutual_partial_correctness (fun x0 x1 r=>PU 53 [X8 x0,eI x1] (eI r)) (fun x0 x1 x5 x6 o=>LO 53 3 29 [0,1,5,6] [.sl 20 (List.map Qh x0),ii x1,ii x5,ii x6] [] [5] (Uv (x0,x1) () o))
 (fun Xp Q6e x0 x1 r h=>
 Pu2 (hs:=[(3000004,.l [] [0,1,5,6] [] [5] [] (Uv (x0,x1)))]) ((kL1 () (Q6e x0 x1 (0:Int) (0:Int)) fun v0 v2=>(kEr (enc:=eI) v2)) h))
 (fun Vu Xp Q6d Q6e x0 x1 x5 x6 o h=>
 Lp2 (hs:=[(9,.n eI 9 none),(10,.split),(13,.split),(20,.e Qx),(25,.c eI),(5000003,.l [] [] [] [0,1,5,6,14] [] (Jc (x0,x1)))]) (kb:=[]) (kbx:=[]) ((kJb (id:=5000003) (x5,x6) (fun v0 a6 v1=>(kN _ (mLen (sh:=Qh) x0) fun v2=>(kIfD (p:=x6<v2) (kIfD (p:=(0:Int)<x1) (kXj (alts:=Jc (x0,x1)) a6 true (.here () rfl (.refl _) (.refl _)))
 (kXj (alts:=Jc (x0,x1)) a6 false (.next (.here () rfl (.refl _) (.refl _)))))
 (kXj (alts:=Jc (x0,x1)) a6 false (.next (.here () rfl (.refl _) (.refl _)))))))
 (fun v0=>(kIxR (l:=x0) (k:=v0.snd) Yu fun v4=>(kC (sh:=eI) (Q6d v4.fBody (wr (x1 - (1:Int)))) fun v5=>(kM0 (alts:=Uv (x0,x1) ()) (Q6e x0 x1 (if true=true then max v0.fst (wr ((1:Int)+v5)) else min v0.fst (wr ((1:Int)+v5))) (wr (v0.snd+(1:Int))))))))
 (fun v0=>(kX (alts:=Uv (x0,x1) ()) v0.fst (.here _ rfl (.refl _) (.refl _))))) h))
theorem AX(x0:List Qe)(x1:Int)(r:Int)(h:Vu x0 x1=some r):PU 53 [X8 x0,eI x1] (eI r):=(Sg).1 x0 x1 r h
def UW(s:((List Qe)×Int))(u:Unit)(o:Int):List Alt:=[⟨fun(x:Int)=>x=o,.exit 0,fun x=>[ii x],fun x=>[]⟩]
def JI(s:((List Qe)×Int))(u:(Int×Int))(o:Bool):List Alt:=jb o (fun b=>[.sl 20 (List.map Qh (s.1)),ii (s.2),ii (u.1),ii (u.2),.bool b]) []
mutual
def Jp(x0:List Qe)(x1:Int):Option Int:=
 some (List.length x0:Int)>>=fun v0=>
 some (v0:Int)>>=fun v1=>
 some ()>>=fun v2=>
 YH x0 x1 v1 (0:Int)>>=fun v4=>
 some v4
 partial_fixpoint
def YH(x0:List Qe)(x1:Int)(x5:Int)(x6:Int):Option Int:=
 some (x5,x6)>>=fun v0=>
 (some (List.length x0:Int)>>=fun v2=>
 if x6<v2 then
 if x5≤x1 then
 some true
 else
 some false
 else
 some false)>>=fun v1=>if v1 then
 Option.map Qe.f (ix x0 v0.snd)>>=fun v4=>
 Jp v4.fBody (if true=true then max (0:Int) (wr (x1 - v0.fst)) else min (0:Int) (wr (x1 - v0.fst)))>>=fun v5=>
 some (wr (v0.fst+v5):Int)>>=fun v6=>
 YH x0 x1 v6 (wr (v0.snd+(1:Int)))
 else
 some v0.fst
 partial_fixpoint
end
theorem AE:(∀(x0:List Qe) (x1:Int) (r:Int),Jp x0 x1=some r→PU 54 [X8 x0,eI x1] (eI r))∧(∀(x0:List Qe) (x1:Int) (x5:Int) (x6:Int) (o:Int),YH x0 x1 x5 x6=some o→LO 54 3 33 [0,1,5,6] [.sl 20 (List.map Qh x0),ii x1,ii x5,ii x6] [] [5] (UW (x0,x1) () o)):=
 Jp.mutual_partial_correctness (fun x0 x1 r=>PU 54 [X8 x0,eI x1] (eI r)) (fun x0 x1 x5 x6 o=>LO 54 3 33 [0,1,5,6] [.sl 20 (List.map Qh x0),ii x1,ii x5,ii x6] [] [5] (UW (x0,x1) () o))
 (fun YH Q6i x0 x1 r h=>
 Pu2 (hs:=[(8,.n eI 8 none),(5,.n eI 5 none),(3000004,.l [] [0,1,5,6] [] [5] [] (UW (x0,x1)))]) ((kN _ (mLen (sh:=Qh) x0) fun v0=>(kN v0 rfl fun v1=>(kL1 () (Q6i x0 x1 v1 (0:Int)) fun v2 v4=>(kEr (enc:=eI) v4)))) h))
 (fun Jp YH Q6h Q6i x0 x1 x5 x6 o h=>
 Lp2 (hs:=[(11,.n eI 11 none),(12,.split),(16,.split),(23,.e Qx),(30,.c eI),(5,.n eI 5 none),(5000003,.l [] [] [] [0,1,5,6,17] [] (JI (x0,x1)))]) (kb:=[]) (kbx:=[]) ((kJb (id:=5000003) (x5,x6) (fun v0 a6 v1=>(kN _ (mLen (sh:=Qh) x0) fun v2=>(kIfD (p:=x6<v2) (kIfD (p:=x5≤x1) (kXj (alts:=JI (x0,x1)) a6 true (.here () rfl (.refl _) (.refl _)))
 (kXj (alts:=JI (x0,x1)) a6 false (.next (.here () rfl (.refl _) (.refl _)))))
 (kXj (alts:=JI (x0,x1)) a6 false (.next (.here () rfl (.refl _) (.refl _)))))))
 (fun v0=>(kIxR (l:=x0) (k:=v0.snd) Yu fun v4=>(kC (sh:=eI) (Q6h v4.fBody (if true=true then max (0:Int) (wr (x1 - v0.fst)) else min (0:Int) (wr (x1 - v0.fst)))) fun v5=>(kN (wr (v0.fst+v5)) rfl fun v6=>(kM0 (alts:=UW (x0,x1) ()) (Q6i x0 x1 v6 (wr (v0.snd+(1:Int)))))))))
 (fun v0=>(kX (alts:=UW (x0,x1) ()) v0.fst (.here _ rfl (.refl _) (.refl _))))) h))
theorem FM(x0:List Qe)(x1:Int)(r:Int)(h:Jp x0 x1=some r):PU 54 [X8 x0,eI x1] (eI r):=(AE).1 x0 x1 r h
def MB:Option (List Str):=
 some [[(115:UInt8),(105:UInt8),(122:UInt8),(101:UInt8)],[(119:UInt8),(104:UInt8),(101:UInt8),(114:UInt8),(101:UInt8)],[(105:UInt8),(110:UInt8)],[(100:UInt8),(101:UInt8),(102:UInt8)],[(111:UInt8),(117:UInt8),(116:UInt8)],[(115:UInt8),(117:UInt8),(109:UInt8)],[(112:UInt8),(114:UInt8),(111:UInt8),(100:UInt8)],[(109:UInt8),(105:UInt8),(110:UInt8)],[(109:UInt8),(97:UInt8),(120:UInt8)],[(115:UInt8),(99:UInt8),(97:UInt8),(110:UInt8)],[(111:UInt8),(118:UInt8),(101:UInt8),(114:UInt8)],[(105:UInt8),(102:UInt8)],[(99:UInt8),(97:UInt8),(115:UInt8),(116:UInt8)],[(102:UInt8),(114:UInt8),(97:UInt8),(99:UInt8)],[(105:UInt8),(110:UInt8),(116:UInt8)],[(102:UInt8),(105:UInt8),(120:UInt8)],[(99:UInt8),(101:UInt8),(105:UInt8),(108:UInt8)],[(102:UInt8),(108:UInt8),(111:UInt8),(111:UInt8),(114:UInt8)],[(122:UInt8),(101:UInt8),(114:UInt8),(111:UInt8)],[(101:UInt8),(118:UInt8),(101:UInt8),(110:UInt8)],[(115:UInt8),(97:UInt8),(116:UInt8)],[(119:UInt8),(114:UInt8),(97:UInt8),(112:UInt8)]]
theorem Ft(r:List Str)(h:MB=some r):PU 102 [] (eLS r):=
 Pu2 (hs:=[(0,.z [{slot:=1,own:=1},{slot:=1,fz:=true}] none)]) ((kT (rfl:(22:Nat)=(22:Nat)) (kEr (enc:=eLS) [[(115:UInt8),(105:UInt8),(122:UInt8),(101:UInt8)],[(119:UInt8),(104:UInt8),(101:UInt8),(114:UInt8),(101:UInt8)],[(105:UInt8),(110:UInt8)],[(100:UInt8),(101:UInt8),(102:UInt8)],[(111:UInt8),(117:UInt8),(116:UInt8)],[(115:UInt8),(117:UInt8),(109:UInt8)],[(112:UInt8),(114:UInt8),(111:UInt8),(100:UInt8)],[(109:UInt8),(105:UInt8),(110:UInt8)],[(109:UInt8),(97:UInt8),(120:UInt8)],[(115:UInt8),(99:UInt8),(97:UInt8),(110:UInt8)],[(111:UInt8),(118:UInt8),(101:UInt8),(114:UInt8)],[(105:UInt8),(102:UInt8)],[(99:UInt8),(97:UInt8),(115:UInt8),(116:UInt8)],[(102:UInt8),(114:UInt8),(97:UInt8),(99:UInt8)],[(105:UInt8),(110:UInt8),(116:UInt8)],[(102:UInt8),(105:UInt8),(120:UInt8)],[(99:UInt8),(101:UInt8),(105:UInt8),(108:UInt8)],[(102:UInt8),(108:UInt8),(111:UInt8),(111:UInt8),(114:UInt8)],[(122:UInt8),(101:UInt8),(114:UInt8),(111:UInt8)],[(101:UInt8),(118:UInt8),(101:UInt8),(110:UInt8)],[(115:UInt8),(97:UInt8),(116:UInt8)],[(119:UInt8),(114:UInt8),(97:UInt8),(112:UInt8)]])) h)
def UH(s:((List Str)×Str))(u:Unit)(o:Unit ⊕ Bool):List Alt:=[⟨fun(x:Unit)=>(Sum.inl x:Unit ⊕ Bool)=o,.exit 0,fun x=>[.undef],fun x=>[]⟩,⟨fun(x:Bool)=>(Sum.inr x:Unit ⊕ Bool)=o,.ret,fun x=>[.bool x],fun x=>[]⟩]
def Yf(x0:List Str)(x1:Str)(x5:Int):Option (Unit ⊕ Bool):=
 some (List.length x0:Int)>>=fun v0=>
 if x5<v0 then
 ix x0 x5>>=fun v1=>
 if v1==x1 then
 some (.inr true)
 else
 Yf x0 x1 (wr (x5+(1:Int)))
 else
 some (.inl ())
 partial_fixpoint
theorem AF(x0:List Str)(x1:Str)(x5:Int)(o:Unit ⊕ Bool)(h:Yf x0 x1 x5=some o):LO 101 2 18 [0,1,5] [.sl 1 (List.map eS x0),.str x1,ii x5] [] [4] (UH (x0,x1) () o):=
 Yf.partial_correctness x0 x1 (fun x5 o=>LO 101 2 18 [0,1,5] [.sl 1 (List.map eS x0),.str x1,ii x5] [] [4] (UH (x0,x1) () o))
 (fun Yf Q49 x5 o h=>
 Lp2 (hs:=[(8,.n eI 8 none),(9,.split),(14,.e eS),(17,.split)]) (kb:=[]) (kbx:=[]) ((kN _ (mLen (sh:=eS) x0) fun v0=>(kIfD (p:=x5<v0) (kIx (enc:=eS) (l:=x0) (k:=x5) fun v1=>(kIf (c:=v1==x1) (kX (alts:=UH (x0,x1) ()) (.inr true) (.next (.here _ rfl (.refl _) (.refl _))))
 (kM0 (alts:=UH (x0,x1) ()) (Q49 (wr (x5+(1:Int)))))))
 (kX (alts:=UH (x0,x1) ()) (.inl ()) (.here _ rfl (.refl _) (.refl _))))) h)) x5 o h
def GJ(x0:List Str)(x1:Str):Option Bool:=
 some ()>>=fun v0=>
 Yf x0 x1 (0:Int)>>=fun v1=>(match v1 with
 | (.inl v2)=>
 some false
 | (.inr v3)=>
 some v3)
theorem T2(x0:List Str)(x1:Str)(r:Bool)(h:GJ x0 x1=some r):PU 101 [eLS x0,eS x1] (eB r):=
 Pu2 (hs:=[(3000003,.l [] [0,1,5] [] [4] [] (UH (x0,x1)))]) ((kL2 () (hL:=(AF x0 x1 (0:Int))) (hA:=fun v0 v2=>(kEr (enc:=eB) false))
 (hB:=fun v0 v3=>(kEr (enc:=eB) v3))) h)
def Um(s:Str)(u:Unit)(o:Unit ⊕ Bool):List Alt:=[⟨fun(x:Unit)=>(Sum.inl x:Unit ⊕ Bool)=o,.exit 0,fun x=>[.undef],fun x=>[]⟩,⟨fun(x:Bool)=>(Sum.inr x:Unit ⊕ Bool)=o,.ret,fun x=>[.bool x],fun x=>[]⟩]
def QI(s:Str)(u:Int)(o:Bool):List Alt:=jb o (fun b=>[.str s,ii u,.bool b]) []
def XO(x0:Str)(x3:Int):Option (Unit ⊕ Bool):=
 if x3< (↑(List.length x0):Int) then
 ix x0 x3>>=fun v0=>
 some x3>>=fun v1=>
 (if(97:Int)≤(↑v0.toNat:Int) then
 if(↑v0.toNat:Int)≤(122:Int) then
 some false
 else
 if(0:Int)<x3 then
 if(48:Int)≤(↑v0.toNat:Int) then
 if(↑v0.toNat:Int)≤(57:Int) then
 some false
 else
 if(↑v0.toNat:Int)==(95:Int) then
 some false
 else
 some true
 else
 if(↑v0.toNat:Int)==(95:Int) then
 some false
 else
 some true
 else
 some true
 else
 if(0:Int)<x3 then
 if(48:Int)≤(↑v0.toNat:Int) then
 if(↑v0.toNat:Int)≤(57:Int) then
 some false
 else
 if(↑v0.toNat:Int)==(95:Int) then
 some false
 else
 some true
 else
 if(↑v0.toNat:Int)==(95:Int) then
 some false
 else
 some true
 else
 some true)>>=fun v2=>if v2 then
 some (.inr false)
 else
 XO x0 (wr (v1+(1:Int)))
 else
 some (.inl ())
 partial_fixpoint
theorem Sk(x0:Str)(x3:Int)(o:Unit ⊕ Bool)(h:XO x0 x3=some o):LO 77 4 50 [0,3] [.str x0,ii x3] [] [2] (Um x0 () o):=
 XO.partial_correctness x0 (fun x3 o=>LO 77 4 50 [0,3] [.str x0,ii x3] [] [2] (Um x0 () o))
 (fun XO Q4f x3 o h=>
 Lp2 (hs:=[(21,.split),(26,.u),(28,.split),(31,.split),(35,.split),(38,.split),(41,.split),(45,.split),(5000007,.l [] [] [] [0,3,49] [] (QI x0))]) (kb:=[]) (kbx:=[]) ((kIfD (p:=x3< (↑(List.length x0):Int)) (kU (s:=x0) (k:=x3) fun v0=>(kJb (id:=5000007) x3 (fun v1 a3 v2=>(kIfD (p:=(97:Int)≤(↑v0.toNat:Int)) (kIfD (p:=(↑v0.toNat:Int)≤(122:Int)) (kXj (alts:=QI x0) a3 false (.next (.here () rfl (.refl _) (.refl _))))
 (kIfD (p:=(0:Int)<x3) (kIfD (p:=(48:Int)≤(↑v0.toNat:Int)) (kIfD (p:=(↑v0.toNat:Int)≤(57:Int)) (kXj (alts:=QI x0) a3 false (.next (.here () rfl (.refl _) (.refl _))))
 (kIf (c:=(↑v0.toNat:Int)==(95:Int)) (kXj (alts:=QI x0) a3 false (.next (.here () rfl (.refl _) (.refl _))))
 (kXj (alts:=QI x0) a3 true (.here () rfl (.refl _) (.refl _)))))
 (kIf (c:=(↑v0.toNat:Int)==(95:Int)) (kXj (alts:=QI x0) a3 false (.next (.here () rfl (.refl _) (.refl _))))
 (kXj (alts:=QI x0) a3 true (.here () rfl (.refl _) (.refl _)))))
 (kXj (alts:=QI x0) a3 true (.here () rfl (.refl _) (.refl _)))))
 (kIfD (p:=(0:Int)<x3) (kIfD (p:=(48:Int)≤(↑v0.toNat:Int)) (kIfD (p:=(↑v0.toNat:Int)≤(57:Int)) (kXj (alts:=QI x0) a3 false (.next (.here () rfl (.refl _) (.refl _))))
 (kIf (c:=(↑v0.toNat:Int)==(95:Int)) (kXj (alts:=QI x0) a3 false (.next (.here () rfl (.refl _) (.refl _))))
 (kXj (alts:=QI x0) a3 true (.here () rfl (.refl _) (.refl _)))))
 (kIf (c:=(↑v0.toNat:Int)==(95:Int)) (kXj (alts:=QI x0) a3 false (.next (.here () rfl (.refl _) (.refl _))))
 (kXj (alts:=QI x0) a3 true (.here () rfl (.refl _) (.refl _)))))
 (kXj (alts:=QI x0) a3 true (.here () rfl (.refl _) (.refl _))))))
 (fun v1=>(kX (alts:=Um x0 ()) (.inr false) (.next (.here _ rfl (.refl _) (.refl _)))))
 (fun v1=>(kM0 (alts:=Um x0 ()) (Q4f (wr (v1+(1:Int))))))))
 (kX (alts:=Um x0 ()) (.inl ()) (.here _ rfl (.refl _) (.refl _)))) h)) x3 o h
def V7(s:Str)(u:Unit)(o:Bool):List Alt:=jb o (fun b=>[.str s,.bool b]) []
def Uf(x0:Str):Option Bool:=
 some ()>>=fun v0=>
 (if(↑(List.length x0):Int)< (1:Int) then
 some true
 else
 if(16:Int)< (↑(List.length x0):Int) then
 some true
 else
 MB>>=fun v2=>
 GJ v2 x0>>=fun v3=>if v3 then
 some true
 else
 some false)>>=fun v1=>if v1 then
 some false
 else
 some ()>>=fun v6=>
 XO x0 (0:Int)>>=fun v7=>(match v7 with
 | (.inl v8)=>
 some true
 | (.inr v9)=>
 some v9)
theorem CA(x0:Str)(r:Bool)(h:Uf x0=some r):PU 77 [eS x0] (eB r):=
 Pu2 (hs:=[(7,.split),(11,.split),(14,.c eLS),(16,.cb),(3000005,.l [] [0,3] [] [2] [] (Um x0)),(5000001,.l [] [] [] [0,17] [] (V7 x0))]) ((kJb (id:=5000001) () (fun v0 a4 v1=>(kIfD (p:=(↑(List.length x0):Int)< (1:Int)) (kXj (alts:=V7 x0) a4 true (.here () rfl (.refl _) (.refl _)))
 (kIfD (p:=(16:Int)< (↑(List.length x0):Int)) (kXj (alts:=V7 x0) a4 true (.here () rfl (.refl _) (.refl _)))
 (kC (sh:=eLS) (Ft) fun v2=>(kCb (T2 v2 x0) (kXj (alts:=V7 x0) a4 true (.here () rfl (.refl _) (.refl _)))
 (kXj (alts:=V7 x0) a4 false (.next (.here () rfl (.refl _) (.refl _)))))))))
 (fun v0=>(kEr (enc:=eB) false))
 (fun v0=>(kL2 () (hL:=(Sk x0 (0:Int))) (hA:=fun v6 v8=>(kEr (enc:=eB) true))
 (hB:=fun v6 v9=>(kEr (enc:=eB) v9))))) h)
def U4(s:Q6)(u:Unit)(o:Bool):List Alt:=jb o (fun b=>[.ptr 0 0 0,.bool b]) [.cells 0 (Qc s).cells]
def Ug(x0:Q6):Option Bool:=
 some ()>>=fun v0=>
 (if x0.fKind==(1:Int) then
 some true
 else
 if x0.fKind==(3:Int) then
 some true
 else
 some false)>>=fun v1=>if v1 then
 if x0.fBits==(0:Int) then
 if x0.fFrac==(0:Int) then
 if x0.fRound==(0:Int) then
 some (x0.fOver==(0:Int))
 else
 some false
 else
 some false
 else
 some false
 else
 if x0.fKind==(2:Int) then
 if(2:Int)≤x0.fBits then
 if x0.fBits≤(31:Int) then
 if(0:Int)≤x0.fFrac then
 if x0.fFrac≤(30:Int) then
 if(1:Int)≤x0.fRound then
 if x0.fRound≤(4:Int) then
 if x0.fOver==(1:Int) then
 some true
 else
 some (x0.fOver==(2:Int))
 else
 some false
 else
 some false
 else
 some false
 else
 some false
 else
 some false
 else
 some false
 else
 some false
theorem CB(x0:Q6)(r:Bool)(h:Ug x0=some r):PU 68 [Qc x0] (eB r):=
 Pu2 (hs:=[(5,.split),(9,.split),(13,.split),(17,.split),(22,.split),(31,.split),(35,.split),(40,.split),(45,.split),(50,.split),(55,.split),(60,.split),(65,.split),(5000001,.l [] [] [] [1,10] [kk 1] (U4 x0))]) ((kJb (id:=5000001) () (fun v0 a4 v1=>(kIf (c:=x0.fKind==(1:Int)) (kXj (alts:=U4 x0) a4 true (.here () rfl (.refl _) (.refl _)))
 (kIf (c:=x0.fKind==(3:Int)) (kXj (alts:=U4 x0) a4 true (.here () rfl (.refl _) (.refl _)))
 (kXj (alts:=U4 x0) a4 false (.next (.here () rfl (.refl _) (.refl _)))))))
 (fun v0=>(kIf (c:=x0.fBits==(0:Int)) (kIf (c:=x0.fFrac==(0:Int)) (kIf (c:=x0.fRound==(0:Int)) (kEr (enc:=eB) (x0.fOver==(0:Int)))
 (kEr (enc:=eB) false))
 (kEr (enc:=eB) false))
 (kEr (enc:=eB) false)))
 (fun v0=>(kIf (c:=x0.fKind==(2:Int)) (kIfD (p:=(2:Int)≤x0.fBits) (kIfD (p:=x0.fBits≤(31:Int)) (kIfD (p:=(0:Int)≤x0.fFrac) (kIfD (p:=x0.fFrac≤(30:Int)) (kIfD (p:=(1:Int)≤x0.fRound) (kIfD (p:=x0.fRound≤(4:Int)) (kIf (c:=x0.fOver==(1:Int)) (kEr (enc:=eB) true)
 (kEr (enc:=eB) (x0.fOver==(2:Int))))
 (kEr (enc:=eB) false))
 (kEr (enc:=eB) false))
 (kEr (enc:=eB) false))
 (kEr (enc:=eB) false))
 (kEr (enc:=eB) false))
 (kEr (enc:=eB) false))
 (kEr (enc:=eB) false)))) h)
def Y0(s:List Int)(u:Unit)(o:Unit ⊕ Int):List Alt:=[⟨fun(x:Unit)=>(Sum.inl x:Unit ⊕ Int)=o,.exit 2,fun x=>[.undef],fun x=>[]⟩,⟨fun(x:Int)=>(Sum.inr x:Unit ⊕ Int)=o,.ret,fun x=>[ii x],fun x=>[]⟩]
def ZN(x0:List Int)(x4:Int)(x5:Int):Option (Unit ⊕ Int):=
 some (List.length x0:Int)>>=fun v0=>
 if x5<v0 then
 ix x0 x5>>=fun v1=>
 if(4096:Int)<v1 then
 some (.inr (2:Int))
 else
 ix x0 x5>>=fun v2=>
 some (wr (x4*v2):Int)>>=fun v3=>
 if(4096:Int)<v3 then
 some (.inr (2:Int))
 else
 ZN x0 v3 (wr (x5+(1:Int)))
 else
 some (.inl ())
 partial_fixpoint
theorem I8(x0:List Int)(x4:Int)(x5:Int)(o:Unit ⊕ Int)(h:ZN x0 x4 x5=some o):LO 59 10 39 [0,4,5] [.sl 1 (List.map eI x0),ii x4,ii x5] [] [2] (Y0 x0 () o):=
 ZN.partial_correctness x0 (fun x4 x5 o=>LO 59 10 39 [0,4,5] [.sl 1 (List.map eI x0),ii x4,ii x5] [] [2] (Y0 x0 () o))
 (fun ZN Q5h x4 x5 o h=>
 Lp2 (hs:=[(22,.n eI 22 none),(23,.split),(28,.e eI),(30,.split),(34,.e eI),(4,.n eI 4 none),(38,.split)]) (kb:=[]) (kbx:=[]) ((kN _ (mLen (sh:=eI) x0) fun v0=>(kIfD (p:=x5<v0) (kIx (enc:=eI) (l:=x0) (k:=x5) fun v1=>(kIfD (p:=(4096:Int)<v1) (kX (alts:=Y0 x0 ()) (.inr (2:Int)) (.next (.here _ rfl (.refl _) (.refl _))))
 (kIx (enc:=eI) (l:=x0) (k:=x5) fun v2=>(kN (wr (x4*v2)) rfl fun v3=>(kIfD (p:=(4096:Int)<v3) (kX (alts:=Y0 x0 ()) (.inr (2:Int)) (.next (.here _ rfl (.refl _) (.refl _))))
 (kM0 (alts:=Y0 x0 ()) (Q5h v3 (wr (x5+(1:Int))))))))))
 (kX (alts:=Y0 x0 ()) (.inl ()) (.here _ rfl (.refl _) (.refl _))))) h)) x4 x5 o h
def Ks(s:List Int)(u:Unit)(o:Unit ⊕ Int):List Alt:=[⟨fun(x:Unit)=>(Sum.inl x:Unit ⊕ Int)=o,.exit 0,fun x=>[.sl 1 (List.map eI s),.undef],fun x=>[]⟩,⟨fun(x:Int)=>(Sum.inr x:Unit ⊕ Int)=o,.ret,fun x=>[.sl 1 (List.map eI s),ii x],fun x=>[]⟩]
def ZZ(x0:List Int)(x3:Int):Option (Unit ⊕ Int):=
 some (List.length x0:Int)>>=fun v0=>
 if x3<v0 then
 ix x0 x3>>=fun v1=>
 if v1< (1:Int) then
 some (.inr (1:Int))
 else
 ZZ x0 (wr (x3+(1:Int)))
 else
 some (.inl ())
 partial_fixpoint
theorem H9(x0:List Int)(x3:Int)(o:Unit ⊕ Int)(h:ZZ x0 x3=some o):LO 59 4 39 [0,3] [.sl 1 (List.map eI x0),ii x3] [] [0,2] (Ks x0 () o):=
 ZZ.partial_correctness x0 (fun x3 o=>LO 59 4 39 [0,3] [.sl 1 (List.map eI x0),ii x3] [] [0,2] (Ks x0 () o))
 (fun ZZ Q5i x3 o h=>
 Lp2 (hs:=[(11,.n eI 11 none),(12,.split),(17,.e eI),(19,.split)]) (kb:=[]) (kbx:=[]) ((kN _ (mLen (sh:=eI) x0) fun v0=>(kIfD (p:=x3<v0) (kIx (enc:=eI) (l:=x0) (k:=x3) fun v1=>(kIfD (p:=v1< (1:Int)) (kX (alts:=Ks x0 ()) (.inr (1:Int)) (.next (.here _ rfl (.refl _) (.refl _))))
 (kM0 (alts:=Ks x0 ()) (Q5i (wr (x3+(1:Int)))))))
 (kX (alts:=Ks x0 ()) (.inl ()) (.here _ rfl (.refl _) (.refl _))))) h)) x3 o h
def GO(x0:List Int):Option Int:=
 some (List.length x0:Int)>>=fun v0=>
 if(6:Int)<v0 then
 some (2:Int)
 else
 some ()>>=fun v1=>
 ZZ x0 (0:Int)>>=fun v2=>(match v2 with
 | (.inl v3)=>
 some ((1:Int):Int)>>=fun v4=>
 some ()>>=fun v5=>
 ZN x0 v4 (0:Int)>>=fun v6=>(match v6 with
 | (.inl v7)=>
 some (0:Int)
 | (.inr v8)=>
 some v8)
 | (.inr v9)=>
 some v9)
theorem Rl(x0:List Int)(r:Int)(h:GO x0=some r):PU 59 [eLI x0] (eI r):=
 Pu2 (hs:=[(7,.n eI 7 none),(8,.split),(4,.n eI 4 none),(3000011,.l [] [0,4,5] [] [2] [] (Y0 x0)),(3000005,.l [] [0,3] [] [0,2] [] (Ks x0))]) ((kN _ (mLen (sh:=eI) x0) fun v0=>(kIfD (p:=(6:Int)<v0) (kEr (enc:=eI) (2:Int))
 (kL2 () (hL:=(H9 x0 (0:Int))) (hA:=fun v1 v3=>(kN (1:Int) rfl fun v4=>(kL2 () (hL:=(I8 x0 v4 (0:Int))) (hA:=fun v5 v7=>(kEr (enc:=eI) (0:Int)))
 (hB:=fun v5 v8=>(kEr (enc:=eI) v8)))))
 (hB:=fun v1 v9=>(kEr (enc:=eI) v9))))) h)
def JE(s:Qd)(u:(Int×Q9))(o:Unit ⊕ Int):List Alt:=[⟨fun(x:Unit)=>(Sum.inl x:Unit ⊕ Int)=o,.exit 2,fun x=>[.ptr 0 0 0,.undef,ii u.1,.ptr 1 0 0],fun x=>[.cells 0 (Qp s).cells,.cells 0 (Q5 u.2).cells]⟩,⟨fun(x:Int)=>(Sum.inr x:Unit ⊕ Int)=o,.ret,fun x=>[.ptr 0 0 0,ii x,ii u.1,.ptr 1 0 0],fun x=>[.cells 0 (Qp s).cells,.cells 0 (Q5 u.2).cells]⟩]
def YF(x1:Qd)(x3:Int)(x4:Q9)(x5:Int):Option (Unit ⊕ Int):=
 if x5<x3 then
 ix x1.fBufs x5>>=fun v0=>
 if v0.fName==x4.fName then
 some (.inr (8:Int))
 else
 YF x1 x3 x4 (wr (x5+(1:Int)))
 else
 some (.inl ())
 partial_fixpoint
theorem Th(x1:Qd)(x3:Int)(x4:Q9)(x5:Int)(o:Unit ⊕ Int)(h:YF x1 x3 x4 x5=some o):LO 55 8 55 [1,3,4,5] [.ptr 0 0 0,ii x3,.ptr 1 0 0,ii x5] [.cells 0 (Qp x1).cells,.cells 0 (Q5 x4).cells] [1,2,3,4] (JE x1 (x3,x4) o):=
 YF.partial_correctness x1 x3 x4 (fun x5 o=>LO 55 8 55 [1,3,4,5] [.ptr 0 0 0,ii x3,.ptr 1 0 0,ii x5] [.cells 0 (Qp x1).cells,.cells 0 (Q5 x4).cells] [1,2,3,4] (JE x1 (x3,x4) o))
 (fun YF Q6c x5 o h=>
 Lp2 (hs:=[(25,.split),(31,.e Q5),(36,.split)]) (kb:=[kk 1,kk 4]) (kbx:=[kk 1,kk 4]) ((kIfD (p:=x5<x3) (kIx (enc:=Q5) (l:=x1.fBufs) (k:=x5) fun v0=>(kIf (c:=v0.fName==x4.fName) (kX (alts:=JE x1 (x3,x4)) (.inr (8:Int)) (.next (.here _ rfl (.refl _) (.refl _))))
 (kM0 (alts:=JE x1 (x3,x4)) (Q6c (wr (x5+(1:Int)))))))
 (kX (alts:=JE x1 (x3,x4)) (.inl ()) (.here _ rfl (.refl _) (.refl _)))) h)) x5 o h
def XR(s:Qd)(u:Unit)(o:Unit ⊕ Int):List Alt:=[⟨fun(x:Unit)=>(Sum.inl x:Unit ⊕ Int)=o,.exit 0,fun x=>[.undef],fun x=>[]⟩,⟨fun(x:Int)=>(Sum.inr x:Unit ⊕ Int)=o,.ret,fun x=>[ii x],fun x=>[]⟩]
def JD(s:Qd)(u:Int)(o:Bool):List Alt:=jb o (fun b=>[.ptr 0 0 0,ii u,.bool b]) [.cells 0 (Qp s).cells]
def YE(x1:Qd)(x3:Int):Option (Unit ⊕ Int):=
 some (List.length x1.fBufs:Int)>>=fun v0=>
 if x3<v0 then
 ix x1.fBufs x3>>=fun v1=>
 Uf v1.fName>>=fun v2=>if v2 then
 some (x3,v1)>>=fun v3=>
 YF x1 x3 v1 (0:Int)>>=fun v4=>(match v4 with
 | (.inl v5)=>
 Ug v3.snd.fType>>=fun v6=>if v6 then
 GO v3.snd.fDims>>=fun v7=>
 if v7 !=(0:Int) then
 some (.inr v7)
 else
 some v3.fst>>=fun v8=>
 (if v3.snd.fUse< (1:Int) then
 some true
 else
 if(3:Int)<v3.snd.fUse then
 some true
 else
 some false)>>=fun v9=>if v9 then
 some (.inr (1:Int))
 else
 YE x1 (wr (v8+(1:Int)))
 else
 some (.inr (10:Int))
 | (.inr v12)=>
 some (.inr v12))
 else
 some (.inr (7:Int))
 else
 some (.inl ())
 partial_fixpoint
theorem Tg(x1:Qd)(x3:Int)(o:Unit ⊕ Int)(h:YE x1 x3=some o):LO 55 2 55 [1,3] [.ptr 0 0 0,ii x3] [.cells 0 (Qp x1).cells] [2] (XR x1 () o):=
 YE.partial_correctness x1 (fun x3 o=>LO 55 2 55 [1,3] [.ptr 0 0 0,ii x3] [.cells 0 (Qp x1).cells] [2] (XR x1 () o))
 (fun YE Q6b x3 o h=>
 Lp2 (hs:=[(10,.n eI 10 none),(11,.split),(17,.e Q5),(21,.cb),(39,.cb),(43,.c eI),(45,.split),(49,.split),(53,.split),(3000009,.l [] [1,3,4,5] [kk 1,kk 4] [1,2,3,4] [kk 1,kk 4] (JE x1)),(5000017,.l [] [] [] [1,3,54] [kk 1] (JD x1))]) (kb:=[kk 1]) (kbx:=[]) ((kN _ (mLen (sh:=Q5) x1.fBufs) fun v0=>(kIfD (p:=x3<v0) (kIx (enc:=Q5) (l:=x1.fBufs) (k:=x3) fun v1=>(kCb (CA v1.fName) (kL2 (x3,v1) (hL:=(Th x1 x3 v1 (0:Int))) (hA:=fun v3 v5=>(kCb (CB v3.snd.fType) (kC (sh:=eI) (Rl v3.snd.fDims) fun v7=>(kIf (c:=v7 !=(0:Int)) (kX (alts:=XR x1 ()) (.inr v7) (.next (.here _ rfl (.refl _) (.refl _))))
 (kJb (id:=5000017) v3.fst (fun v8 a5 v9=>(kIfD (p:=v3.snd.fUse< (1:Int)) (kXj (alts:=JD x1) a5 true (.here () rfl (.refl _) (.refl _)))
 (kIfD (p:=(3:Int)<v3.snd.fUse) (kXj (alts:=JD x1) a5 true (.here () rfl (.refl _) (.refl _)))
 (kXj (alts:=JD x1) a5 false (.next (.here () rfl (.refl _) (.refl _)))))))
 (fun v8=>(kX (alts:=XR x1 ()) (.inr (1:Int)) (.next (.here _ rfl (.refl _) (.refl _)))))
 (fun v8=>(kM0 (alts:=XR x1 ()) (Q6b (wr (v8+(1:Int)))))))))
 (kX (alts:=XR x1 ()) (.inr (10:Int)) (.next (.here _ rfl (.refl _) (.refl _))))))
 (hB:=fun v3 a8=>(kX (alts:=XR x1 ()) (.inr a8) (.next (.here _ rfl (.refl _) (.refl _))))))
 (kX (alts:=XR x1 ()) (.inr (7:Int)) (.next (.here _ rfl (.refl _) (.refl _))))))
 (kX (alts:=XR x1 ()) (.inl ()) (.here _ rfl (.refl _) (.refl _))))) h)) x3 o h
def WE(x0:Qd):Option Int:=
 some ()>>=fun v0=>
 YE x0 (0:Int)>>=fun v1=>(match v1 with
 | (.inl v2)=>
 some (0:Int)
 | (.inr v3)=>
 some v3)
theorem FJ(x0:Qd)(r:Int)(h:WE x0=some r):PU 55 [Qp x0] (eI r):=
 Pu2 (hs:=[(3000003,.l [] [1,3] [kk 1] [2] [] (XR x0))]) ((kL2 () (hL:=(Tg x0 (0:Int))) (hA:=fun v0 v2=>(kEr (enc:=eI) (0:Int)))
 (hB:=fun v0 v3=>(kEr (enc:=eI) v3))) h)
def UI(s:(gLin×gLin))(u:Unit)(o:Unit ⊕ Bool):List Alt:=[⟨fun(x:Unit)=>(Sum.inl x:Unit ⊕ Bool)=o,.exit 0,fun x=>[.undef],fun x=>[]⟩,⟨fun(x:Bool)=>(Sum.inr x:Unit ⊕ Bool)=o,.ret,fun x=>[.bool x],fun x=>[]⟩]
def UJ(x2:gLin)(x3:gLin)(x5:Int):Option (Unit ⊕ Bool):=
 some (List.length x2.fL:Int)>>=fun v0=>
 if x5<v0 then
 ix x2.fL x5>>=fun v1=>
 ix x3.fL x5>>=fun v2=>
 if !(v1.fName==v2.fName&& (v1.fBy==v2.fBy&&true)) then
 some (.inr false)
 else
 UJ x2 x3 (wr (x5+(1:Int)))
 else
 some (.inl ())
 partial_fixpoint
theorem AG(x2:gLin)(x3:gLin)(x5:Int)(o:Unit ⊕ Bool)(h:UJ x2 x3 x5=some o):LO 152 4 38 [2,3,5] [.ptr 0 0 0,.ptr 1 0 0,ii x5] [.cells 0 (Qg x2).cells,.cells 0 (Qg x3).cells] [4] (UI (x2,x3) () o):=
 UJ.partial_correctness x2 x3 (fun x5 o=>LO 152 4 38 [2,3,5] [.ptr 0 0 0,.ptr 1 0 0,ii x5] [.cells 0 (Qg x2).cells,.cells 0 (Qg x3).cells] [4] (UI (x2,x3) () o))
 (fun UJ Q4d x5 o h=>
 Lp2 (hs:=[(23,.n eI 23 none),(24,.split),(30,.e Qq),(35,.e Qq),(37,.split)]) (kb:=[kk 2,kk 3]) (kbx:=[]) ((kN _ (mLen (sh:=Qq) x2.fL) fun v0=>(kIfD (p:=x5<v0) (kIx (enc:=Qq) (l:=x2.fL) (k:=x5) fun v1=>(kIx (enc:=Qq) (l:=x3.fL) (k:=x5) fun v2=>(kIf (c:= !(v1.fName==v2.fName&& (v1.fBy==v2.fBy&&true))) (kX (alts:=UI (x2,x3) ()) (.inr false) (.next (.here _ rfl (.refl _) (.refl _))))
 (kM0 (alts:=UI (x2,x3) ()) (Q4d (wr (x5+(1:Int))))))))
 (kX (alts:=UI (x2,x3) ()) (.inl ()) (.here _ rfl (.refl _) (.refl _))))) h)) x5 o h
def UB(s:(gLin×gLin))(u:Unit)(o:Bool):List Alt:=jb o (fun b=>[.ptr 0 0 0,.ptr 1 0 0,.bool b]) [.cells 0 (Qg (s.1)).cells,.cells 0 (Qg (s.2)).cells]
def DW(x0:gLin)(x1:gLin):Option Bool:=
 some ()>>=fun v0=>
 (if x0.fK !=x1.fK then
 some true
 else
 some (List.length x0.fL:Int)>>=fun v2=>
 some (List.length x1.fL:Int)>>=fun v3=>
 if v2 !=v3 then
 some true
 else
 some false)>>=fun v1=>if v1 then
 some false
 else
 some ()>>=fun v6=>
 UJ x0 x1 (0:Int)>>=fun v7=>(match v7 with
 | (.inl v8)=>
 some true
 | (.inr v9)=>
 some v9)
theorem I5(x0:gLin)(x1:gLin)(r:Bool)(h:DW x0 x1=some r):PU 152 [Qg x0,Qg x1] (eB r):=
 Pu2 (hs:=[(10,.split),(14,.n eI 14 none),(17,.n eI 17 none),(18,.split),(3000005,.l [] [2,3,5] [kk 2,kk 3] [4] [] (UI (x0,x1))),(5000001,.l [] [] [] [2,3,19] [kk 2,kk 3] (UB (x0,x1)))]) ((kJb (id:=5000001) () (fun v0 a5 v1=>(kIf (c:=x0.fK !=x1.fK) (kXj (alts:=UB (x0,x1)) a5 true (.here () rfl (.refl _) (.refl _)))
 (kN _ (mLen (sh:=Qq) x0.fL) fun v2=>(kN _ (mLen (sh:=Qq) x1.fL) fun v3=>(kIf (c:=v2 !=v3) (kXj (alts:=UB (x0,x1)) a5 true (.here () rfl (.refl _) (.refl _)))
 (kXj (alts:=UB (x0,x1)) a5 false (.next (.here () rfl (.refl _) (.refl _)))))))))
 (fun v0=>(kEr (enc:=eB) false))
 (fun v0=>(kL2 () (hL:=(AG x0 x1 (0:Int))) (hA:=fun v6 v8=>(kEr (enc:=eB) true))
 (hB:=fun v6 v9=>(kEr (enc:=eB) v9))))) h)
def Ul(s:((List gLin)× (List gLin)))(u:Unit)(o:Unit ⊕ Bool):List Alt:=[⟨fun(x:Unit)=>(Sum.inl x:Unit ⊕ Bool)=o,.exit 0,fun x=>[.undef],fun x=>[]⟩,⟨fun(x:Bool)=>(Sum.inr x:Unit ⊕ Bool)=o,.ret,fun x=>[.bool x],fun x=>[]⟩]
def Gx(x0:List gLin)(x1:List gLin)(x5:Int):Option (Unit ⊕ Bool):=
 some (List.length x0:Int)>>=fun v0=>
 if x5<v0 then
 ix x0 x5>>=fun v1=>
 ix x1 x5>>=fun v2=>
 DW v1 v2>>=fun v3=>if v3 then
 Gx x0 x1 (wr (x5+(1:Int)))
 else
 some (.inr false)
 else
 some (.inl ())
 partial_fixpoint
theorem Sj(x0:List gLin)(x1:List gLin)(x5:Int)(o:Unit ⊕ Bool)(h:Gx x0 x1 x5=some o):LO 224 4 27 [0,1,5] [.sl 2 (List.map Qg x0),.sl 2 (List.map Qg x1),ii x5] [] [4] (Ul (x0,x1) () o):=
 Gx.partial_correctness x0 x1 (fun x5 o=>LO 224 4 27 [0,1,5] [.sl 2 (List.map Qg x0),.sl 2 (List.map Qg x1),ii x5] [] [4] (Ul (x0,x1) () o))
 (fun Gx Q4e x5 o h=>
 Lp2 (hs:=[(13,.n eI 13 none),(14,.split),(19,.e Qg),(23,.e Qg),(25,.cb)]) (kb:=[]) (kbx:=[]) ((kN _ (mLen (sh:=Qg) x0) fun v0=>(kIfD (p:=x5<v0) (kIx (enc:=Qg) (l:=x0) (k:=x5) fun v1=>(kIx (enc:=Qg) (l:=x1) (k:=x5) fun v2=>(kCb (I5 v1 v2) (kM0 (alts:=Ul (x0,x1) ()) (Q4e (wr (x5+(1:Int)))))
 (kX (alts:=Ul (x0,x1) ()) (.inr false) (.next (.here _ rfl (.refl _) (.refl _)))))))
 (kX (alts:=Ul (x0,x1) ()) (.inl ()) (.here _ rfl (.refl _) (.refl _))))) h)) x5 o h
def EV(x0:List gLin)(x1:List gLin):Option Bool:=
 some (List.length x0:Int)>>=fun v0=>
 some (List.length x1:Int)>>=fun v1=>
 if v0 !=v1 then
 some false
 else
 some ()>>=fun v2=>
 Gx x0 x1 (0:Int)>>=fun v3=>(match v3 with
 | (.inl v4)=>
 some true
 | (.inr v5)=>
 some v5)
theorem Om(x0:List gLin)(x1:List gLin)(r:Bool)(h:EV x0 x1=some r):PU 224 [GD x0,GD x1] (eB r):=
 Pu2 (hs:=[(7,.n eI 7 none),(9,.n eI 9 none),(10,.split),(3000005,.l [] [0,1,5] [] [4] [] (Ul (x0,x1)))]) ((kN _ (mLen (sh:=Qg) x0) fun v0=>(kN _ (mLen (sh:=Qg) x1) fun v1=>(kIf (c:=v0 !=v1) (kEr (enc:=eB) false)
 (kL2 () (hL:=(Sj x0 x1 (0:Int))) (hA:=fun v2 v4=>(kEr (enc:=eB) true))
 (hB:=fun v2 v5=>(kEr (enc:=eB) v5)))))) h)
def Hf(x0:Qi)(x1:Qi):Option Bool:=
 if x0.fFrom==x1.fFrom then
 DW x0.fLin x1.fLin>>=fun v0=>if v0 then
 EV x0.fAt x1.fAt>>=fun v1=>
 some v1
 else
 some false
 else
 some false
theorem Fs(x0:Qi)(x1:Qi)(r:Bool)(h:Hf x0 x1=some r):PU 185 [Q7 x0,Q7 x1] (eB r):=
 Pu2 (hs:=[(9,.split),(15,.cb),(22,.c eB)]) ((kIf (c:=x0.fFrom==x1.fFrom) (kCb (I5 x0.fLin x1.fLin) (kC (sh:=eB) (Om x0.fAt x1.fAt) fun v1=>(kEr (enc:=eB) v1))
 (kEr (enc:=eB) false))
 (kEr (enc:=eB) false)) h)
def Vj(s:((List Qi)× (List Qi)))(u:Unit)(o:Unit ⊕ Bool):List Alt:=[⟨fun(x:Unit)=>(Sum.inl x:Unit ⊕ Bool)=o,.exit 0,fun x=>[.undef],fun x=>[]⟩,⟨fun(x:Bool)=>(Sum.inr x:Unit ⊕ Bool)=o,.ret,fun x=>[.bool x],fun x=>[]⟩]
def Vq(x0:List Qi)(x1:List Qi)(x5:Int):Option (Unit ⊕ Bool):=
 some (List.length x0:Int)>>=fun v0=>
 if x5<v0 then
 ix x0 x5>>=fun v1=>
 ix x1 x5>>=fun v2=>
 Hf v1 v2>>=fun v3=>if v3 then
 Vq x0 x1 (wr (x5+(1:Int)))
 else
 some (.inr false)
 else
 some (.inl ())
 partial_fixpoint
theorem ED(x0:List Qi)(x1:List Qi)(x5:Int)(o:Unit ⊕ Bool)(h:Vq x0 x1 x5=some o):LO 153 4 27 [0,1,5] [.sl 4 (List.map Q7 x0),.sl 4 (List.map Q7 x1),ii x5] [] [4] (Vj (x0,x1) () o):=
 Vq.partial_correctness x0 x1 (fun x5 o=>LO 153 4 27 [0,1,5] [.sl 4 (List.map Q7 x0),.sl 4 (List.map Q7 x1),ii x5] [] [4] (Vj (x0,x1) () o))
 (fun Vq Q4a x5 o h=>
 Lp2 (hs:=[(13,.n eI 13 none),(14,.split),(19,.e Q7),(23,.e Q7),(25,.cb)]) (kb:=[]) (kbx:=[]) ((kN _ (mLen (sh:=Q7) x0) fun v0=>(kIfD (p:=x5<v0) (kIx (enc:=Q7) (l:=x0) (k:=x5) fun v1=>(kIx (enc:=Q7) (l:=x1) (k:=x5) fun v2=>(kCb (Fs v1 v2) (kM0 (alts:=Vj (x0,x1) ()) (Q4a (wr (x5+(1:Int)))))
 (kX (alts:=Vj (x0,x1) ()) (.inr false) (.next (.here _ rfl (.refl _) (.refl _)))))))
 (kX (alts:=Vj (x0,x1) ()) (.inl ()) (.here _ rfl (.refl _) (.refl _))))) h)) x5 o h
def DV(x0:List Qi)(x1:List Qi):Option Bool:=
 some (List.length x0:Int)>>=fun v0=>
 some (List.length x1:Int)>>=fun v1=>
 if v0 !=v1 then
 some false
 else
 some ()>>=fun v2=>
 Vq x0 x1 (0:Int)>>=fun v3=>(match v3 with
 | (.inl v4)=>
 some true
 | (.inr v5)=>
 some v5)
theorem Sh(x0:List Qi)(x1:List Qi)(r:Bool)(h:DV x0 x1=some r):PU 153 [VX x0,VX x1] (eB r):=
 Pu2 (hs:=[(7,.n eI 7 none),(9,.n eI 9 none),(10,.split),(3000005,.l [] [0,1,5] [] [4] [] (Vj (x0,x1)))]) ((kN _ (mLen (sh:=Q7) x0) fun v0=>(kN _ (mLen (sh:=Q7) x1) fun v1=>(kIf (c:=v0 !=v1) (kEr (enc:=eB) false)
 (kL2 () (hL:=(ED x0 x1 (0:Int))) (hA:=fun v2 v4=>(kEr (enc:=eB) true))
 (hB:=fun v2 v5=>(kEr (enc:=eB) v5)))))) h)
def Js(s:((List Qb)× (List Qb)))(u:Unit)(o:Unit ⊕ Bool):List Alt:=[⟨fun(x:Unit)=>(Sum.inl x:Unit ⊕ Bool)=o,.exit 0,fun x=>[.undef],fun x=>[]⟩,⟨fun(x:Bool)=>(Sum.inr x:Unit ⊕ Bool)=o,.ret,fun x=>[.bool x],fun x=>[]⟩]
mutual
def Ue(x0:Q1)(x1:Q1):Option Bool:=
 if x0.fOp==x1.fOp then
 if x0.fName==x1.fName then
 if x0.fVal.fN==x1.fVal.fN&& (x0.fVal.fD==x1.fVal.fD&&true) then
 if x0.fType.fKind==x1.fType.fKind&& (x0.fType.fBits==x1.fType.fBits&& (x0.fType.fFrac==x1.fType.fFrac&& (x0.fType.fRound==x1.fType.fRound&& (x0.fType.fOver==x1.fType.fOver&&true)))) then
 DW x0.fLin x1.fLin>>=fun v0=>if v0 then
 DV x0.fIdx x1.fIdx>>=fun v1=>if v1 then
 Dt x0.fArgs x1.fArgs>>=fun v2=>
 some v2
 else
 some false
 else
 some false
 else
 some false
 else
 some false
 else
 some false
 else
 some false
 partial_fixpoint
def Dt(x0:List Qb)(x1:List Qb):Option Bool:=
 some (List.length x0:Int)>>=fun v0=>
 some (List.length x1:Int)>>=fun v1=>
 if v0 !=v1 then
 some false
 else
 some ()>>=fun v2=>
 JK x0 x1 (0:Int)>>=fun v3=>(match v3 with
 | (.inl v4)=>
 some true
 | (.inr v5)=>
 some v5)
 partial_fixpoint
def JK(x0:List Qb)(x1:List Qb)(x5:Int):Option (Unit ⊕ Bool):=
 some (List.length x0:Int)>>=fun v0=>
 if x5<v0 then
 Option.map Qb.f (ix x0 x5)>>=fun v1=>
 Option.map Qb.f (ix x1 x5)>>=fun v2=>
 Ue v1 v2>>=fun v3=>if v3 then
 JK x0 x1 (wr (x5+(1:Int)))
 else
 some (.inr false)
 else
 some (.inl ())
 partial_fixpoint
end
theorem Fp:(∀(x0:Q1) (x1:Q1) (r:Bool),Ue x0 x1=some r→PU 125 [Q2 x0,Q2 x1] (eB r))∧(∀(x0:List Qb) (x1:List Qb) (r:Bool),Dt x0 x1=some r→PU 154 [YO x0,YO x1] (eB r))∧(∀(x0:List Qb) (x1:List Qb) (x5:Int) (o:Unit ⊕ Bool),JK x0 x1 x5=some o→LO 154 4 27 [0,1,5] [.sl 13 (List.map Qr x0),.sl 13 (List.map Qr x1),ii x5] [] [4] (Js (x0,x1) () o)):=
 Ue.mutual_partial_correctness (fun x0 x1 r=>PU 125 [Q2 x0,Q2 x1] (eB r)) (fun x0 x1 r=>PU 154 [YO x0,YO x1] (eB r)) (fun x0 x1 x5 o=>LO 154 4 27 [0,1,5] [.sl 13 (List.map Qr x0),.sl 13 (List.map Qr x1),ii x5] [] [4] (Js (x0,x1) () o))
 (fun Dt Q47 x0 x1 r h=>
 Pu2 (hs:=[(9,.split),(15,.split),(22,.split),(29,.split),(36,.cb),(43,.cb),(50,.c eB)]) ((kIf (c:=x0.fOp==x1.fOp) (kIf (c:=x0.fName==x1.fName) (kIf (c:=x0.fVal.fN==x1.fVal.fN&& (x0.fVal.fD==x1.fVal.fD&&true)) (kIf (c:=x0.fType.fKind==x1.fType.fKind&& (x0.fType.fBits==x1.fType.fBits&& (x0.fType.fFrac==x1.fType.fFrac&& (x0.fType.fRound==x1.fType.fRound&& (x0.fType.fOver==x1.fType.fOver&&true))))) (kCb (I5 x0.fLin x1.fLin) (kCb (Sh x0.fIdx x1.fIdx) (kC (sh:=eB) (Q47 x0.fArgs x1.fArgs) fun v2=>(kEr (enc:=eB) v2))
 (kEr (enc:=eB) false))
 (kEr (enc:=eB) false))
 (kEr (enc:=eB) false))
 (kEr (enc:=eB) false))
 (kEr (enc:=eB) false))
 (kEr (enc:=eB) false)) h))
 (fun JK Q48 x0 x1 r h=>
 Pu2 (hs:=[(7,.n eI 7 none),(9,.n eI 9 none),(10,.split),(3000005,.l [] [0,1,5] [] [4] [] (Js (x0,x1)))]) ((kN _ (mLen (sh:=Qr) x0) fun v0=>(kN _ (mLen (sh:=Qr) x1) fun v1=>(kIf (c:=v0 !=v1) (kEr (enc:=eB) false)
 (kL2 () (hL:=(Q48 x0 x1 (0:Int))) (hA:=fun v2 v4=>(kEr (enc:=eB) true))
 (hB:=fun v2 v5=>(kEr (enc:=eB) v5)))))) h))
 (fun Ue JK Q46 Q48 x0 x1 x5 o h=>
 Lp2 (hs:=[(13,.n eI 13 none),(14,.split),(19,.e Q2),(23,.e Q2),(25,.cb)]) (kb:=[]) (kbx:=[]) ((kN _ (mLen (sh:=Qr) x0) fun v0=>(kIfD (p:=x5<v0) (kIxR (l:=x0) (k:=x5) Yt fun v1=>(kIxR (l:=x1) (k:=x5) Yt fun v2=>(kCb (Q46 v1 v2) (kM0 (alts:=Js (x0,x1) ()) (Q48 x0 x1 (wr (x5+(1:Int)))))
 (kX (alts:=Js (x0,x1) ()) (.inr false) (.next (.here _ rfl (.refl _) (.refl _)))))))
 (kX (alts:=Js (x0,x1) ()) (.inl ()) (.here _ rfl (.refl _) (.refl _))))) h))
theorem Ol(x0:Q1)(x1:Q1)(r:Bool)(h:Ue x0 x1=some r):PU 125 [Q2 x0,Q2 x1] (eB r):=(Fp).1 x0 x1 r h
def Gf(s:Qw)(u:(Bool×Bool))(o:Bool):List Alt:=[⟨fun(x:Bool)=>x=o,.normal,fun x=>[.ptr 0 0 0,.bool (u.1),.bool (u.2),.bool x],fun x=>[.cells 0 (Qx s).cells]⟩]
def Kx(s:Qw)(u:(Bool×Bool×Bool))(o:Bool):List Alt:=jb o (fun b=>[.ptr 0 0 0,.bool (u.1),.bool (u.2.1),.bool (u.2.2),.bool b]) [.cells 0 (Qx s).cells]
def Qu(s:Qw)(u:(Bool×Bool))(o:Bool):List Alt:=jb o (fun b=>[.ptr 0 0 0,.bool (u.1),.bool (u.2),.bool b]) [.cells 0 (Qx s).cells]
def ZS(s:Qw)(u:Bool)(o:Bool):List Alt:=jb o (fun b=>[.ptr 0 0 0,.bool u,.bool b]) [.cells 0 (Qx s).cells]
def CY(x0:Qw):Option Bool:=
 some ((x0.fOp==(1:Int)),(x0.fOp==(4:Int)))>>=fun v0=>
 (if x0.fOp==(2:Int) then
 some true
 else
 some (x0.fOp==(3:Int)))>>=fun v2=>
 some (v0.fst,v0.snd,v2)>>=fun v3=>
 (if v0.fst then
 some false
 else
 if v0.snd then
 some false
 else
 if v2 then
 some false
 else
 some true)>>=fun v4=>if v4 then
 some false
 else
 some (v3.fst,v3.snd.snd)>>=fun v7=>
 (if v3.fst then
 if x0.fOp !=(3:Int) then
 if x0.fFold !=(0:Int) then
 some true
 else
 if v3.snd.fst then
 if !x0.fName==[] then
 some true
 else
 some false
 else
 some false
 else
 if v3.snd.fst then
 if !x0.fName==[] then
 some true
 else
 some false
 else
 some false
 else
 if x0.fMany !=(0:Int) then
 some true
 else
 if x0.fMark !=(0:Int) then
 some true
 else
 if x0.fOp !=(3:Int) then
 if x0.fFold !=(0:Int) then
 some true
 else
 if v3.snd.fst then
 if !x0.fName==[] then
 some true
 else
 some false
 else
 some false
 else
 if v3.snd.fst then
 if !x0.fName==[] then
 some true
 else
 some false
 else
 some false)>>=fun v8=>if v8 then
 some false
 else
 some v7.fst>>=fun a7=>
 (if v7.snd then
 if v7.snd then
 some (List.length x0.fBody:Int)>>=fun a9=>
 if(0:Int)<a9 then
 some true
 else
 some false
 else
 some false
 else
 some (List.length x0.fIdx:Int)>>=fun aa=>
 if(0:Int)<aa then
 some true
 else
 if v7.snd then
 some (List.length x0.fBody:Int)>>=fun ab=>
 if(0:Int)<ab then
 some true
 else
 some false
 else
 some false)>>=fun a8=>if a8 then
 some false
 else
 if a7 then
 some ((KG.mk (0:Int) [] (gVal.mk (0:Int) (0:Int)) (Q6.mk (0:Int) (0:Int) (0:Int) (0:Int) (0:Int)) (gLin.mk (0:Int) []) [] []:Q1))>>=fun ac=>
 Ue x0.fExpr ac>>=fun ad=>
 some ad
 else
 some true
theorem AY(x0:Qw)(r:Bool)(h:CY x0=some r):PU 103 [Qx x0] (eB r):=
 Pu2 (hs:=[(14,.split),(20,.split),(23,.split),(27,.split),(30,.split),(35,.split),(39,.split),(45,.split),(49,.split),(53,.split),(57,.split),(60,.split),(65,.n eI 65 none),(66,.split),(69,.split),(73,.n eI 73 none),(74,.split),(77,.split),(82,.n Q2 82 none),(83,.c eB),(5000002,.l [] [] [] [1,3,4,5] [kk 1] (Gf x0)),(5000003,.l [] [] [] [1,3,4,5,29] [kk 1] (Kx x0)),(5000005,.l [] [] [] [1,3,5,59] [kk 1] (Qu x0)),(5000007,.l [] [] [] [1,3,76] [kk 1] (ZS x0))]) ((kJ1 (id:=5000002) ((x0.fOp==(1:Int)),(x0.fOp==(4:Int))) (fun v0 aa v1=>(kIf (c:=x0.fOp==(2:Int)) (kXj (alts:=Gf x0) aa true (.here _ rfl (.refl _) (.refl _)))
 (kXj (alts:=Gf x0) aa (x0.fOp==(3:Int)) (.here _ rfl (.refl _) (.refl _)))))
 (fun v0 v2=>(kJb (id:=5000003) (v0.fst,v0.snd,v2) (fun v3 a6 v4=>(kIf (c:=v0.fst) (kXj (alts:=Kx x0) a6 false (.next (.here () rfl (.refl _) (.refl _))))
 (kIf (c:=v0.snd) (kXj (alts:=Kx x0) a6 false (.next (.here () rfl (.refl _) (.refl _))))
 (kIf (c:=v2) (kXj (alts:=Kx x0) a6 false (.next (.here () rfl (.refl _) (.refl _))))
 (kXj (alts:=Kx x0) a6 true (.here () rfl (.refl _) (.refl _)))))))
 (fun v3=>(kEr (enc:=eB) false))
 (fun v3=>(kJb (id:=5000005) (v3.fst,v3.snd.snd) (fun v7 a4 v8=>(kIf (c:=v3.fst) (kIf (c:=x0.fOp !=(3:Int)) (kIf (c:=x0.fFold !=(0:Int)) (kXj (alts:=Qu x0) a4 true (.here () rfl (.refl _) (.refl _)))
 (kIf (c:=v3.snd.fst) (kIf (c:= !x0.fName==[]) (kXj (alts:=Qu x0) a4 true (.here () rfl (.refl _) (.refl _)))
 (kXj (alts:=Qu x0) a4 false (.next (.here () rfl (.refl _) (.refl _)))))
 (kXj (alts:=Qu x0) a4 false (.next (.here () rfl (.refl _) (.refl _))))))
 (kIf (c:=v3.snd.fst) (kIf (c:= !x0.fName==[]) (kXj (alts:=Qu x0) a4 true (.here () rfl (.refl _) (.refl _)))
 (kXj (alts:=Qu x0) a4 false (.next (.here () rfl (.refl _) (.refl _)))))
 (kXj (alts:=Qu x0) a4 false (.next (.here () rfl (.refl _) (.refl _))))))
 (kIf (c:=x0.fMany !=(0:Int)) (kXj (alts:=Qu x0) a4 true (.here () rfl (.refl _) (.refl _)))
 (kIf (c:=x0.fMark !=(0:Int)) (kXj (alts:=Qu x0) a4 true (.here () rfl (.refl _) (.refl _)))
 (kIf (c:=x0.fOp !=(3:Int)) (kIf (c:=x0.fFold !=(0:Int)) (kXj (alts:=Qu x0) a4 true (.here () rfl (.refl _) (.refl _)))
 (kIf (c:=v3.snd.fst) (kIf (c:= !x0.fName==[]) (kXj (alts:=Qu x0) a4 true (.here () rfl (.refl _) (.refl _)))
 (kXj (alts:=Qu x0) a4 false (.next (.here () rfl (.refl _) (.refl _)))))
 (kXj (alts:=Qu x0) a4 false (.next (.here () rfl (.refl _) (.refl _))))))
 (kIf (c:=v3.snd.fst) (kIf (c:= !x0.fName==[]) (kXj (alts:=Qu x0) a4 true (.here () rfl (.refl _) (.refl _)))
 (kXj (alts:=Qu x0) a4 false (.next (.here () rfl (.refl _) (.refl _)))))
 (kXj (alts:=Qu x0) a4 false (.next (.here () rfl (.refl _) (.refl _))))))))))
 (fun v7=>(kEr (enc:=eB) false))
 (fun v7=>(kJb (id:=5000007) v7.fst (fun a8 a5 ai=>(kIf (c:=v7.snd) (kIf (c:=v7.snd) (kN _ (mLen (sh:=Qh) x0.fBody) fun ac=>(kIfD (p:=(0:Int)<ac) (kXj (alts:=ZS x0) a5 true (.here () rfl (.refl _) (.refl _)))
 (kXj (alts:=ZS x0) a5 false (.next (.here () rfl (.refl _) (.refl _))))))
 (kXj (alts:=ZS x0) a5 false (.next (.here () rfl (.refl _) (.refl _)))))
 (kN _ (mLen (sh:=Q7) x0.fIdx) fun ad=>(kIfD (p:=(0:Int)<ad) (kXj (alts:=ZS x0) a5 true (.here () rfl (.refl _) (.refl _)))
 (kIf (c:=v7.snd) (kN _ (mLen (sh:=Qh) x0.fBody) fun ae=>(kIfD (p:=(0:Int)<ae) (kXj (alts:=ZS x0) a5 true (.here () rfl (.refl _) (.refl _)))
 (kXj (alts:=ZS x0) a5 false (.next (.here () rfl (.refl _) (.refl _))))))
 (kXj (alts:=ZS x0) a5 false (.next (.here () rfl (.refl _) (.refl _)))))))))
 (fun a8=>(kEr (enc:=eB) false))
 (fun a8=>(kIf (c:=a8) (kW (sh:=Q2) (KG.mk (0:Int) [] (gVal.mk (0:Int) (0:Int)) (Q6.mk (0:Int) (0:Int) (0:Int) (0:Int) (0:Int)) (gLin.mk (0:Int) []) [] []:Q1) (LeV.agg (.cons (LeV.refl (ii (0:Int))) (.cons (LeV.refl (AV.str [])) (.cons (LeV.refl (ii (0:Int))) (.cons (LeV.refl (ii (0:Int))) (.cons (LeV.refl (ii (0:Int))) (.cons (LeV.refl (ii (0:Int))) (.cons (LeV.refl (ii (0:Int))) (.cons (LeV.refl (ii (0:Int))) (.cons (LeV.refl (ii (0:Int))) (.cons (LeV.refl (ii (0:Int))) (.cons (LeV.nil 2) (.cons (LeV.nil 4) (.cons (LeV.nil 13) .nil)))))))))))))) fun af=>(kC (sh:=eB) (Ol x0.fExpr af) fun ag=>(kEr (enc:=eB) ag)))
 (kEr (enc:=eB) true)))))))))) h)
def Vo(s:(Str×Qd))(u:Unit)(o:Q9 ⊕ (Q9×Bool)):List Alt:=[⟨fun(x:Q9)=>(Sum.inl x:Q9 ⊕ (Q9×Bool))=o,.exit 0,fun x=>[.ptr 0 0 0,.undef],fun x=>[.cells 0 (Q5 x).cells]⟩,⟨fun(x:(Q9×Bool))=>(Sum.inr x:Q9 ⊕ (Q9×Bool))=o,.ret,fun x=>[.ptr 0 0 0,.bool x.2],fun x=>[.cells 0 (Q5 x.1).cells]⟩]
def XF(x1:Str)(x2:Qd)(x4:Q9)(x6:Int):Option (Q9 ⊕ (Q9×Bool)):=
 some (List.length x2.fBufs:Int)>>=fun v0=>
 if x6<v0 then
 ix x2.fBufs x6>>=fun v1=>
 if v1.fName==x1 then
 ix x2.fBufs x6>>=fun v2=>
 some (.inr (v2,true))
 else
 XF x1 x2 x4 (wr (x6+(1:Int)))
 else
 some (.inl x4)
 partial_fixpoint
theorem ER(x1:Str)(x2:Qd)(x4:Q9)(x6:Int)(o:Q9 ⊕ (Q9×Bool))(h:XF x1 x2 x4 x6=some o):LO 104 2 28 [1,2,4,6] [.str x1,.ptr 0 0 0,.ptr 1 0 0,ii x6] [.cells 0 (Qp x2).cells,.cells 0 (Q5 x4).cells] [4,5] (Vo (x1,x2) () o):=
 XF.partial_correctness x1 x2 x4 (fun x6 o=>LO 104 2 28 [1,2,4,6] [.str x1,.ptr 0 0 0,.ptr 1 0 0,ii x6] [.cells 0 (Qp x2).cells,.cells 0 (Q5 x4).cells] [4,5] (Vo (x1,x2) () o))
 (fun XF Q62 x6 o h=>
 Lp2 (hs:=[(10,.n eI 10 none),(11,.split),(17,.e Q5),(21,.split),(25,.e Q5)]) (kb:=[kk 2,kk 4]) (kbx:=[kk 4]) ((kN _ (mLen (sh:=Q5) x2.fBufs) fun v0=>(kIfD (p:=x6<v0) (kIx (enc:=Q5) (l:=x2.fBufs) (k:=x6) fun v1=>(kIf (c:=v1.fName==x1) (kIx (enc:=Q5) (l:=x2.fBufs) (k:=x6) fun v2=>(kX (alts:=Vo (x1,x2) ()) (.inr (v2,true)) (.next (.here _ rfl (.refl _) (.refl _)))))
 (kM0 (alts:=Vo (x1,x2) ()) (Q62 (wr (x6+(1:Int)))))))
 (kX (alts:=Vo (x1,x2) ()) (.inl x4) (.here _ rfl (.refl _) (.refl _))))) h)) x6 o h
def KY(x0:Qd)(x1:Str):Option (Q9×Bool):=
 some ()>>=fun v0=>
 XF x1 x0 (Q9.mk [] (Q6.mk (0:Int) (0:Int) (0:Int) (0:Int) (0:Int)) [] (0:Int)) (0:Int)>>=fun v1=>(match v1 with
 | (.inl v2)=>
 some ((Q9.mk [] (Q6.mk (0:Int) (0:Int) (0:Int) (0:Int) (0:Int)) [] (0:Int)))>>=fun v3=>
 some (v3,false)
 | (.inr v4)=>
 some (v4.fst,v4.snd))
theorem GB(x0:Qd)(x1:Str)(r:(Q9×Bool))(h:KY x0 x1=some r):PU 104 [Qp x0,eS x1] (QD r):=
 Pu2 (hs:=[(27,.n Q5 27 none),(3000003,.l [] [1,2,4,6] [kk 2,kk 4] [4,5] [kk 4] (Vo (x1,x0)))]) ((kL2 () (hL:=(fun y hy=>Yg.le (.cons (LeV.refl (AV.str x1)) (.cons (LeV.refl (AV.ptr (0:Nat) (0:Nat) (0:Nat))) (.cons (LeV.refl (AV.ptr (1:Nat) (0:Nat) (0:Nat))) (.cons (LeV.refl (ii (0:Int))) .nil)))) (.cons (LeB.refl (Box.cells (0:Nat) [AV.sl (8:Nat) (List.map Q5 x0.fBufs),AV.sl (20:Nat) (List.map Qh x0.fBody)])) (.cons (LeB.cells (0:Nat) (.cons (LeV.refl (AV.str [])) (.cons (LeV.refl (ii (0:Int))) (.cons (LeV.refl (ii (0:Int))) (.cons (LeV.refl (ii (0:Int))) (.cons (LeV.refl (ii (0:Int))) (.cons (LeV.refl (ii (0:Int))) (.cons (LeV.nil 1) (.cons (LeV.refl (ii (0:Int))) .nil))))))))) .nil)) (ER x1 x0 (Q9.mk [] (Q6.mk (0:Int) (0:Int) (0:Int) (0:Int) (0:Int)) [] (0:Int)) (0:Int) y hy))) (hA:=fun v0 v2=>(kW (sh:=Q5) (Q9.mk [] (Q6.mk (0:Int) (0:Int) (0:Int) (0:Int) (0:Int)) [] (0:Int)) (LeV.agg (.cons (LeV.refl (AV.str [])) (.cons (LeV.refl (ii (0:Int))) (.cons (LeV.refl (ii (0:Int))) (.cons (LeV.refl (ii (0:Int))) (.cons (LeV.refl (ii (0:Int))) (.cons (LeV.refl (ii (0:Int))) (.cons (LeV.nil 1) (.cons (LeV.refl (ii (0:Int))) .nil))))))))) fun v3=>(kEr (enc:=QD) (v3,false))))
 (hB:=fun v0 v4=>(kEr (enc:=QD) (v4.fst,v4.snd)))) h)
def Uu(s:(Int×Q1))(u:Unit)(o:Int):List Alt:=[⟨fun(x:Int)=>x=o,.exit 0,fun x=>[ii x],fun x=>[]⟩]
def J8(s:(Int×Q1))(u:(Int×Int))(o:Bool):List Alt:=jb o (fun b=>[ii (s.1),.ptr 0 0 0,ii (u.1),ii (u.2),.bool b]) [.cells 0 (Q2 (s.2)).cells]
mutual
def Vt(x0:Q1)(x1:Int):Option Int:=
 some ()>>=fun v0=>
 Xn x1 x0 (1:Int) (0:Int)>>=fun v2=>
 some v2
 partial_fixpoint
def Xn(x1:Int)(x2:Q1)(x5:Int)(x6:Int):Option Int:=
 some (x5,x6)>>=fun v0=>
 (some (List.length x2.fArgs:Int)>>=fun v2=>
 if x6<v2 then
 if(1:Int)<x1 then
 some true
 else
 some false
 else
 some false)>>=fun v1=>if v1 then
 Option.map Qb.f (ix x2.fArgs v0.snd)>>=fun v4=>
 Vt v4 (wr (x1 - (1:Int)))>>=fun v5=>
 Xn x1 x2 (if true=true then max v0.fst (wr ((1:Int)+v5)) else min v0.fst (wr ((1:Int)+v5))) (wr (v0.snd+(1:Int)))
 else
 some v0.fst
 partial_fixpoint
end
theorem Sf:(∀(x0:Q1) (x1:Int) (r:Int),Vt x0 x1=some r→PU 186 [Q2 x0,eI x1] (eI r))∧(∀(x1:Int) (x2:Q1) (x5:Int) (x6:Int) (o:Int),Xn x1 x2 x5 x6=some o→LO 186 3 30 [1,2,5,6] [ii x1,.ptr 0 0 0,ii x5,ii x6] [.cells 0 (Q2 x2).cells] [5] (Uu (x1,x2) () o)):=
 Vt.mutual_partial_correctness (fun x0 x1 r=>PU 186 [Q2 x0,eI x1] (eI r)) (fun x1 x2 x5 x6 o=>LO 186 3 30 [1,2,5,6] [ii x1,.ptr 0 0 0,ii x5,ii x6] [.cells 0 (Q2 x2).cells] [5] (Uu (x1,x2) () o))
 (fun Xn Q5q x0 x1 r h=>
 Pu2 (hs:=[(3000004,.l [] [1,2,5,6] [kk 2] [5] [] (Uu (x1,x0)))]) ((kL1 () (Q5q x1 x0 (1:Int) (0:Int)) fun v0 v2=>(kEr (enc:=eI) v2)) h))
 (fun Vt Xn Q5p Q5q x1 x2 x5 x6 o h=>
 Lp2 (hs:=[(10,.n eI 10 none),(11,.split),(14,.split),(22,.e Q2),(26,.c eI),(5000003,.l [] [] [] [1,2,5,6,15] [kk 2] (J8 (x1,x2)))]) (kb:=[kk 2]) (kbx:=[]) ((kJb (id:=5000003) (x5,x6) (fun v0 a6 v1=>(kN _ (mLen (sh:=Qr) x2.fArgs) fun v2=>(kIfD (p:=x6<v2) (kIfD (p:=(1:Int)<x1) (kXj (alts:=J8 (x1,x2)) a6 true (.here () rfl (.refl _) (.refl _)))
 (kXj (alts:=J8 (x1,x2)) a6 false (.next (.here () rfl (.refl _) (.refl _)))))
 (kXj (alts:=J8 (x1,x2)) a6 false (.next (.here () rfl (.refl _) (.refl _)))))))
 (fun v0=>(kIxR (l:=x2.fArgs) (k:=v0.snd) Yt fun v4=>(kC (sh:=eI) (Q5p v4 (wr (x1 - (1:Int)))) fun v5=>(kM0 (alts:=Uu (x1,x2) ()) (Q5q x1 x2 (if true=true then max v0.fst (wr ((1:Int)+v5)) else min v0.fst (wr ((1:Int)+v5))) (wr (v0.snd+(1:Int))))))))
 (fun v0=>(kX (alts:=Uu (x1,x2) ()) v0.fst (.here _ rfl (.refl _) (.refl _))))) h))
theorem AR(x0:Q1)(x1:Int)(r:Int)(h:Vt x0 x1=some r):PU 186 [Q2 x0,eI x1] (eI r):=(Sf).1 x0 x1 r h
def NZ(x0:Q1):Option Int:=
 Vt x0 (41:Int)>>=fun v0=>
 some v0
theorem AQ(x0:Q1)(r:Int)(h:NZ x0=some r):PU 155 [Q2 x0] (eI r):=
 Pu2 (hs:=[(4,.c eI)]) ((kC (sh:=eI) (AR x0 (41:Int)) fun v0=>(kEr (enc:=eI) v0)) h)
def UU(s:(Int×Q1))(u:Unit)(o:Int):List Alt:=[⟨fun(x:Int)=>x=o,.exit 0,fun x=>[ii x],fun x=>[]⟩]
def Jz(s:(Int×Q1))(u:(Int×Int))(o:Bool):List Alt:=jb o (fun b=>[ii (s.1),.ptr 0 0 0,ii (u.1),ii (u.2),.bool b]) [.cells 0 (Q2 (s.2)).cells]
mutual
def Jo(x0:Q1)(x1:Int):Option Int:=
 some ((1:Int):Int)>>=fun v0=>
 some ()>>=fun v1=>
 YB x1 x0 v0 (0:Int)>>=fun v3=>
 some v3
 partial_fixpoint
def YB(x1:Int)(x2:Q1)(x5:Int)(x6:Int):Option Int:=
 some (x5,x6)>>=fun v0=>
 (some (List.length x2.fArgs:Int)>>=fun v2=>
 if x6<v2 then
 if x5≤x1 then
 some true
 else
 some false
 else
 some false)>>=fun v1=>if v1 then
 Option.map Qb.f (ix x2.fArgs v0.snd)>>=fun v4=>
 Jo v4 (wr (x1 - v0.fst))>>=fun v5=>
 some (wr (v0.fst+v5):Int)>>=fun v6=>
 YB x1 x2 v6 (wr (v0.snd+(1:Int)))
 else
 some v0.fst
 partial_fixpoint
end
theorem AB:(∀(x0:Q1) (x1:Int) (r:Int),Jo x0 x1=some r→PU 187 [Q2 x0,eI x1] (eI r))∧(∀(x1:Int) (x2:Q1) (x5:Int) (x6:Int) (o:Int),YB x1 x2 x5 x6=some o→LO 187 3 31 [1,2,5,6] [ii x1,.ptr 0 0 0,ii x5,ii x6] [.cells 0 (Q2 x2).cells] [5] (UU (x1,x2) () o)):=
 Jo.mutual_partial_correctness (fun x0 x1 r=>PU 187 [Q2 x0,eI x1] (eI r)) (fun x1 x2 x5 x6 o=>LO 187 3 31 [1,2,5,6] [ii x1,.ptr 0 0 0,ii x5,ii x6] [.cells 0 (Q2 x2).cells] [5] (UU (x1,x2) () o))
 (fun YB Q5z x0 x1 r h=>
 Pu2 (hs:=[(5,.n eI 5 none),(3000004,.l [] [1,2,5,6] [kk 2] [5] [] (UU (x1,x0)))]) ((kN (1:Int) rfl fun v0=>(kL1 () (Q5z x1 x0 v0 (0:Int)) fun v1 v3=>(kEr (enc:=eI) v3))) h))
 (fun Jo YB Q5y Q5z x1 x2 x5 x6 o h=>
 Lp2 (hs:=[(10,.n eI 10 none),(11,.split),(15,.split),(23,.e Q2),(28,.c eI),(5,.n eI 5 none),(5000003,.l [] [] [] [1,2,5,6,16] [kk 2] (Jz (x1,x2)))]) (kb:=[kk 2]) (kbx:=[]) ((kJb (id:=5000003) (x5,x6) (fun v0 a6 v1=>(kN _ (mLen (sh:=Qr) x2.fArgs) fun v2=>(kIfD (p:=x6<v2) (kIfD (p:=x5≤x1) (kXj (alts:=Jz (x1,x2)) a6 true (.here () rfl (.refl _) (.refl _)))
 (kXj (alts:=Jz (x1,x2)) a6 false (.next (.here () rfl (.refl _) (.refl _)))))
 (kXj (alts:=Jz (x1,x2)) a6 false (.next (.here () rfl (.refl _) (.refl _)))))))
 (fun v0=>(kIxR (l:=x2.fArgs) (k:=v0.snd) Yt fun v4=>(kC (sh:=eI) (Q5y v4 (wr (x1 - v0.fst))) fun v5=>(kN (wr (v0.fst+v5)) rfl fun v6=>(kM0 (alts:=UU (x1,x2) ()) (Q5z x1 x2 v6 (wr (v0.snd+(1:Int)))))))))
 (fun v0=>(kX (alts:=UU (x1,x2) ()) v0.fst (.here _ rfl (.refl _) (.refl _))))) h))
theorem FF(x0:Q1)(x1:Int)(r:Int)(h:Jo x0 x1=some r):PU 187 [Q2 x0,eI x1] (eI r):=(AB).1 x0 x1 r h
def WB(x0:Q1):Option Int:=
 Jo x0 (2000:Int)>>=fun v0=>
 some (if false=true then max v0 (2001:Int) else min v0 (2001:Int))
theorem FC(x0:Q1)(r:Int)(h:WB x0=some r):PU 156 [Q2 x0] (eI r):=
 Pu2 (hs:=[(4,.c eI)]) ((kC (sh:=eI) (FF x0 (2000:Int)) fun v0=>(kEr (enc:=eI) (if false=true then max v0 (2001:Int) else min v0 (2001:Int)))) h)
def VO(s:Q1)(u:Unit)(o:Unit ⊕ Bool):List Alt:=[⟨fun(x:Unit)=>(Sum.inl x:Unit ⊕ Bool)=o,.exit 0,fun x=>[.undef],fun x=>[]⟩,⟨fun(x:Bool)=>(Sum.inr x:Unit ⊕ Bool)=o,.ret,fun x=>[.bool x],fun x=>[]⟩]
def Zl(s:Q1)(u:Int)(o:Bool):List Alt:=jb o (fun b=>[.ptr 0 0 0,ii u,.bool b]) [.cells 0 (Q2 s).cells]
def Y8(x1:Q1)(x3:Int):Option (Unit ⊕ Bool):=
 some (List.length x1.fIdx:Int)>>=fun v0=>
 if x3<v0 then
 ix x1.fIdx x3>>=fun v1=>
 some x3>>=fun v2=>
 (if v1.fFrom==[] then
 some (List.length v1.fAt:Int)>>=fun v4=>
 if(0:Int)<v4 then
 some true
 else
 if !v1.fFrom==[] then
 if v1.fLin.fK !=(0:Int) then
 some true
 else
 some (List.length v1.fLin.fL:Int)>>=fun v5=>
 if(0:Int)<v5 then
 some true
 else
 some false
 else
 some false
 else
 if !v1.fFrom==[] then
 if v1.fLin.fK !=(0:Int) then
 some true
 else
 some (List.length v1.fLin.fL:Int)>>=fun v6=>
 if(0:Int)<v6 then
 some true
 else
 some false
 else
 some false)>>=fun v3=>if v3 then
 some (.inr false)
 else
 Y8 x1 (wr (v2+(1:Int)))
 else
 some (.inl ())
 partial_fixpoint
theorem Rq(x1:Q1)(x3:Int)(o:Unit ⊕ Bool)(h:Y8 x1 x3=some o):LO 188 8 109 [1,3] [.ptr 0 0 0,ii x3] [.cells 0 (Q2 x1).cells] [2] (VO x1 () o):=
 Y8.partial_correctness x1 (fun x3 o=>LO 188 8 109 [1,3] [.ptr 0 0 0,ii x3] [.cells 0 (Q2 x1).cells] [2] (VO x1 () o))
 (fun Y8 Q5w x3 o h=>
 Lp2 (hs:=[(73,.n eI 73 none),(74,.split),(80,.e Q7),(84,.split),(88,.n eI 88 none),(89,.split),(94,.split),(99,.split),(104,.n eI 104 none),(105,.split),(5000011,.l [] [] [] [1,3,108] [kk 1] (Zl x1))]) (kb:=[kk 1]) (kbx:=[]) ((kN _ (mLen (sh:=Q7) x1.fIdx) fun v0=>(kIfD (p:=x3<v0) (kIx (enc:=Q7) (l:=x1.fIdx) (k:=x3) fun v1=>(kJb (id:=5000011) x3 (fun v2 a4 v3=>(kIf (c:=v1.fFrom==[]) (kN _ (mLen (sh:=Qg) v1.fAt) fun v4=>(kIfD (p:=(0:Int)<v4) (kXj (alts:=Zl x1) a4 true (.here () rfl (.refl _) (.refl _)))
 (kIf (c:= !v1.fFrom==[]) (kIf (c:=v1.fLin.fK !=(0:Int)) (kXj (alts:=Zl x1) a4 true (.here () rfl (.refl _) (.refl _)))
 (kN _ (mLen (sh:=Qq) v1.fLin.fL) fun v5=>(kIfD (p:=(0:Int)<v5) (kXj (alts:=Zl x1) a4 true (.here () rfl (.refl _) (.refl _)))
 (kXj (alts:=Zl x1) a4 false (.next (.here () rfl (.refl _) (.refl _)))))))
 (kXj (alts:=Zl x1) a4 false (.next (.here () rfl (.refl _) (.refl _)))))))
 (kIf (c:= !v1.fFrom==[]) (kIf (c:=v1.fLin.fK !=(0:Int)) (kXj (alts:=Zl x1) a4 true (.here () rfl (.refl _) (.refl _)))
 (kN _ (mLen (sh:=Qq) v1.fLin.fL) fun v6=>(kIfD (p:=(0:Int)<v6) (kXj (alts:=Zl x1) a4 true (.here () rfl (.refl _) (.refl _)))
 (kXj (alts:=Zl x1) a4 false (.next (.here () rfl (.refl _) (.refl _)))))))
 (kXj (alts:=Zl x1) a4 false (.next (.here () rfl (.refl _) (.refl _)))))))
 (fun v2=>(kX (alts:=VO x1 ()) (.inr false) (.next (.here _ rfl (.refl _) (.refl _)))))
 (fun v2=>(kM0 (alts:=VO x1 ()) (Q5w (wr (v2+(1:Int))))))))
 (kX (alts:=VO x1 ()) (.inl ()) (.here _ rfl (.refl _) (.refl _))))) h)) x3 o h
def Jb(s:Q1)(u:Unit)(o:Bool):List Alt:=jb o (fun b=>[.ptr 0 0 0,.bool b]) [.cells 0 (Q2 s).cells]
def Zk(s:Q1)(u:Unit)(o:Bool):List Alt:=jb o (fun b=>[.ptr 0 0 0,.bool b]) [.cells 0 (Q2 s).cells]
def Z4(s:Q1)(u:Unit)(o:Bool):List Alt:=jb o (fun b=>[.ptr 0 0 0,.bool b]) [.cells 0 (Q2 s).cells]
def CV(x0:Q1):Option Bool:=
 some ()>>=fun v0=>
 (if x0.fOp< (1:Int) then
 some true
 else
 if(18:Int)<x0.fOp then
 some true
 else
 some false)>>=fun v1=>if v1 then
 some false
 else
 some ()>>=fun v4=>
 (if x0.fOp !=(1:Int) then
 some ((gVal.mk (0:Int) (0:Int)))>>=fun v6=>
 if !(x0.fVal.fN==v6.fN&& (x0.fVal.fD==v6.fD&&true)) then
 some true
 else
 if x0.fOp !=(1:Int) then
 if x0.fOp !=(12:Int) then
 some ((Q6.mk (0:Int) (0:Int) (0:Int) (0:Int) (0:Int)))>>=fun v7=>
 if !(x0.fType.fKind==v7.fKind&& (x0.fType.fBits==v7.fBits&& (x0.fType.fFrac==v7.fFrac&& (x0.fType.fRound==v7.fRound&& (x0.fType.fOver==v7.fOver&&true))))) then
 some true
 else
 some false
 else
 some false
 else
 some false
 else
 if x0.fOp !=(1:Int) then
 if x0.fOp !=(12:Int) then
 some ((Q6.mk (0:Int) (0:Int) (0:Int) (0:Int) (0:Int)))>>=fun v8=>
 if !(x0.fType.fKind==v8.fKind&& (x0.fType.fBits==v8.fBits&& (x0.fType.fFrac==v8.fFrac&& (x0.fType.fRound==v8.fRound&& (x0.fType.fOver==v8.fOver&&true))))) then
 some true
 else
 some false
 else
 some false
 else
 some false)>>=fun v5=>if v5 then
 some false
 else
 some ()>>=fun ad=>
 (if x0.fOp !=(2:Int) then
 if x0.fLin.fK !=(0:Int) then
 some true
 else
 some (List.length x0.fLin.fL:Int)>>=fun a7=>
 if(0:Int)<a7 then
 some true
 else
 if x0.fOp !=(3:Int) then
 if !x0.fName==[] then
 some true
 else
 some (List.length x0.fIdx:Int)>>=fun a8=>
 if(0:Int)<a8 then
 some true
 else
 some false
 else
 some false
 else
 if x0.fOp !=(3:Int) then
 if !x0.fName==[] then
 some true
 else
 some (List.length x0.fIdx:Int)>>=fun a9=>
 if(0:Int)<a9 then
 some true
 else
 some false
 else
 some false)>>=fun a6=>if a6 then
 some false
 else
 some ()>>=fun ae=>
 Y8 x0 (0:Int)>>=fun aa=>(match aa with
 | (.inl v20)=>
 some true
 | (.inr v21)=>
 some v21)
theorem AT(x0:Q1)(r:Bool)(h:CV x0=some r):PU 188 [Q2 x0] (eB r):=
 Pu2 (hs:=[(7,.split),(11,.split),(15,.split),(19,.n Qk 19 none),(20,.split),(25,.split),(29,.split),(34,.n Qc 34 none),(35,.split),(40,.split),(45,.split),(50,.n eI 50 none),(51,.split),(57,.split),(61,.split),(65,.n eI 65 none),(66,.split),(3000009,.l [] [1,3] [kk 1] [2] [] (VO x0)),(5000001,.l [] [] [] [1,12] [kk 1] (Jb x0)),(5000003,.l [] [] [] [1,37] [kk 1] (Zk x0)),(5000005,.l [] [] [] [1,69] [kk 1] (Z4 x0))]) ((kJb (id:=5000001) () (fun v0 a6 v1=>(kIfD (p:=x0.fOp< (1:Int)) (kXj (alts:=Jb x0) a6 true (.here () rfl (.refl _) (.refl _)))
 (kIfD (p:=(18:Int)<x0.fOp) (kXj (alts:=Jb x0) a6 true (.here () rfl (.refl _) (.refl _)))
 (kXj (alts:=Jb x0) a6 false (.next (.here () rfl (.refl _) (.refl _)))))))
 (fun v0=>(kEr (enc:=eB) false))
 (fun v0=>(kJb (id:=5000003) () (fun v4 a5 v5=>(kIf (c:=x0.fOp !=(1:Int)) (kW (sh:=Qk) (gVal.mk (0:Int) (0:Int)) lr fun v6=>(kIf (c:= !(x0.fVal.fN==v6.fN&& (x0.fVal.fD==v6.fD&&true))) (kXj (alts:=Zk x0) a5 true (.here () rfl (.refl _) (.refl _)))
 (kIf (c:=x0.fOp !=(1:Int)) (kIf (c:=x0.fOp !=(12:Int)) (kW (sh:=Qc) (Q6.mk (0:Int) (0:Int) (0:Int) (0:Int) (0:Int)) lr fun v7=>(kIf (c:= !(x0.fType.fKind==v7.fKind&& (x0.fType.fBits==v7.fBits&& (x0.fType.fFrac==v7.fFrac&& (x0.fType.fRound==v7.fRound&& (x0.fType.fOver==v7.fOver&&true)))))) (kXj (alts:=Zk x0) a5 true (.here () rfl (.refl _) (.refl _)))
 (kXj (alts:=Zk x0) a5 false (.next (.here () rfl (.refl _) (.refl _))))))
 (kXj (alts:=Zk x0) a5 false (.next (.here () rfl (.refl _) (.refl _)))))
 (kXj (alts:=Zk x0) a5 false (.next (.here () rfl (.refl _) (.refl _)))))))
 (kIf (c:=x0.fOp !=(1:Int)) (kIf (c:=x0.fOp !=(12:Int)) (kW (sh:=Qc) (Q6.mk (0:Int) (0:Int) (0:Int) (0:Int) (0:Int)) lr fun v8=>(kIf (c:= !(x0.fType.fKind==v8.fKind&& (x0.fType.fBits==v8.fBits&& (x0.fType.fFrac==v8.fFrac&& (x0.fType.fRound==v8.fRound&& (x0.fType.fOver==v8.fOver&&true)))))) (kXj (alts:=Zk x0) a5 true (.here () rfl (.refl _) (.refl _)))
 (kXj (alts:=Zk x0) a5 false (.next (.here () rfl (.refl _) (.refl _))))))
 (kXj (alts:=Zk x0) a5 false (.next (.here () rfl (.refl _) (.refl _)))))
 (kXj (alts:=Zk x0) a5 false (.next (.here () rfl (.refl _) (.refl _)))))))
 (fun v4=>(kEr (enc:=eB) false))
 (fun v4=>(kJb (id:=5000005) () (fun a7 a4 ai=>(kIf (c:=x0.fOp !=(2:Int)) (kIf (c:=x0.fLin.fK !=(0:Int)) (kXj (alts:=Z4 x0) a4 true (.here () rfl (.refl _) (.refl _)))
 (kN _ (mLen (sh:=Qq) x0.fLin.fL) fun aa=>(kIfD (p:=(0:Int)<aa) (kXj (alts:=Z4 x0) a4 true (.here () rfl (.refl _) (.refl _)))
 (kIf (c:=x0.fOp !=(3:Int)) (kIf (c:= !x0.fName==[]) (kXj (alts:=Z4 x0) a4 true (.here () rfl (.refl _) (.refl _)))
 (kN _ (mLen (sh:=Q7) x0.fIdx) fun ab=>(kIfD (p:=(0:Int)<ab) (kXj (alts:=Z4 x0) a4 true (.here () rfl (.refl _) (.refl _)))
 (kXj (alts:=Z4 x0) a4 false (.next (.here () rfl (.refl _) (.refl _)))))))
 (kXj (alts:=Z4 x0) a4 false (.next (.here () rfl (.refl _) (.refl _))))))))
 (kIf (c:=x0.fOp !=(3:Int)) (kIf (c:= !x0.fName==[]) (kXj (alts:=Z4 x0) a4 true (.here () rfl (.refl _) (.refl _)))
 (kN _ (mLen (sh:=Q7) x0.fIdx) fun ac=>(kIfD (p:=(0:Int)<ac) (kXj (alts:=Z4 x0) a4 true (.here () rfl (.refl _) (.refl _)))
 (kXj (alts:=Z4 x0) a4 false (.next (.here () rfl (.refl _) (.refl _)))))))
 (kXj (alts:=Z4 x0) a4 false (.next (.here () rfl (.refl _) (.refl _)))))))
 (fun a7=>(kEr (enc:=eB) false))
 (fun a7=>(kL2 () (hL:=(Rq x0 (0:Int))) (hA:=fun ad aj=>(kEr (enc:=eB) true))
 (hB:=fun ad ae=>(kEr (enc:=eB) ae))))))))) h)
def VM(s:Q1)(u:Unit)(o:Unit ⊕ Bool):List Alt:=[⟨fun(x:Unit)=>(Sum.inl x:Unit ⊕ Bool)=o,.exit 0,fun x=>[.undef],fun x=>[]⟩,⟨fun(x:Bool)=>(Sum.inr x:Unit ⊕ Bool)=o,.ret,fun x=>[.bool x],fun x=>[]⟩]
def Ja(s:Q1)(u:Int)(o:Bool):List Alt:=jb o (fun b=>[.ptr 0 0 0,ii u,.bool b]) [.cells 0 (Q2 s).cells]
def Y6(x1:Q1)(x3:Int):Option (Unit ⊕ Bool):=
 some (List.length x1.fIdx:Int)>>=fun v0=>
 if x3<v0 then
 some x3>>=fun v1=>
 (ix x1.fIdx x3>>=fun v3=>
 if !v3.fFrom==[] then
 ix x1.fIdx x3>>=fun v4=>
 Uf v4.fFrom>>=fun v5=>if v5 then
 some false
 else
 some true
 else
 some false)>>=fun v2=>if v2 then
 some (.inr false)
 else
 Y6 x1 (wr (v1+(1:Int)))
 else
 some (.inl ())
 partial_fixpoint
theorem Rp(x1:Q1)(x3:Int)(o:Unit ⊕ Bool)(h:Y6 x1 x3=some o):LO 189 4 37 [1,3] [.ptr 0 0 0,ii x3] [.cells 0 (Q2 x1).cells] [2] (VM x1 () o):=
 Y6.partial_correctness x1 (fun x3 o=>LO 189 4 37 [1,3] [.ptr 0 0 0,ii x3] [.cells 0 (Q2 x1).cells] [2] (VM x1 () o))
 (fun Y6 Q5t x3 o h=>
 Lp2 (hs:=[(16,.n eI 16 none),(17,.split),(23,.e Q7),(26,.split),(31,.e Q7),(34,.cb),(5000006,.l [] [] [] [1,3,36] [kk 1] (Ja x1))]) (kb:=[kk 1]) (kbx:=[]) ((kN _ (mLen (sh:=Q7) x1.fIdx) fun v0=>(kIfD (p:=x3<v0) (kJb (id:=5000006) x3 (fun v1 a5 v2=>(kIx (enc:=Q7) (l:=x1.fIdx) (k:=x3) fun v3=>(kIf (c:= !v3.fFrom==[]) (kIx (enc:=Q7) (l:=x1.fIdx) (k:=x3) fun v4=>(kCb (CA v4.fFrom) (kXj (alts:=Ja x1) a5 false (.next (.here () rfl (.refl _) (.refl _))))
 (kXj (alts:=Ja x1) a5 true (.here () rfl (.refl _) (.refl _)))))
 (kXj (alts:=Ja x1) a5 false (.next (.here () rfl (.refl _) (.refl _)))))))
 (fun v1=>(kX (alts:=VM x1 ()) (.inr false) (.next (.here _ rfl (.refl _) (.refl _)))))
 (fun v1=>(kM0 (alts:=VM x1 ()) (Q5t (wr (v1+(1:Int)))))))
 (kX (alts:=VM x1 ()) (.inl ()) (.here _ rfl (.refl _) (.refl _))))) h)) x3 o h
def J9(s:Q1)(u:Unit)(o:Bool):List Alt:=jb o (fun b=>[.ptr 0 0 0,.bool b]) [.cells 0 (Q2 s).cells]
def CU(x0:Q1):Option Bool:=
 some ()>>=fun v0=>
 (if x0.fOp==(3:Int) then
 Uf x0.fName>>=fun v2=>if v2 then
 some false
 else
 some true
 else
 some false)>>=fun v1=>if v1 then
 some false
 else
 some ()>>=fun v5=>
 Y6 x0 (0:Int)>>=fun v6=>(match v6 with
 | (.inl v7)=>
 some true
 | (.inr v8)=>
 some v8)
theorem AS(x0:Q1)(r:Bool)(h:CU x0=some r):PU 189 [Q2 x0] (eB r):=
 Pu2 (hs:=[(6,.split),(10,.cb),(3000005,.l [] [1,3] [kk 1] [2] [] (VM x0)),(5000001,.l [] [] [] [1,12] [kk 1] (J9 x0))]) ((kJb (id:=5000001) () (fun v0 a4 v1=>(kIf (c:=x0.fOp==(3:Int)) (kCb (CA x0.fName) (kXj (alts:=J9 x0) a4 false (.next (.here () rfl (.refl _) (.refl _))))
 (kXj (alts:=J9 x0) a4 true (.here () rfl (.refl _) (.refl _))))
 (kXj (alts:=J9 x0) a4 false (.next (.here () rfl (.refl _) (.refl _))))))
 (fun v0=>(kEr (enc:=eB) false))
 (fun v0=>(kL2 () (hL:=(Rp x0 (0:Int))) (hA:=fun v5 v7=>(kEr (enc:=eB) true))
 (hB:=fun v5 v8=>(kEr (enc:=eB) v8))))) h)
def KV(s:Unit)(u:Int)(o:Bool):List Alt:=jb o (fun b=>[ii u,.bool b]) []
def KW(s:Unit)(u:Int)(o:Bool):List Alt:=jb o (fun b=>[ii u,.bool b]) []
def WC(x0:Int):Option Int:=
 some x0>>=fun v0=>
 (if x0==(1:Int) then
 some true
 else
 if x0==(2:Int) then
 some true
 else
 if x0==(3:Int) then
 some true
 else
 some false)>>=fun v1=>if v1 then
 some (0:Int)
 else
 some v0>>=fun v4=>
 (if v0==(8:Int) then
 some true
 else
 if v0==(12:Int) then
 some true
 else
 if v0==(18:Int) then
 some true
 else
 some false)>>=fun v5=>if v5 then
 some (1:Int)
 else
 if v4==(11:Int) then
 some (3:Int)
 else
 some (2:Int)
theorem FD(x0:Int)(r:Int)(h:WC x0=some r):PU 225 [eI x0] (eI r):=
 Pu2 (hs:=[(4,.split),(4,.split),(4,.split),(8,.split),(8,.split),(8,.split),(13,.split),(6000004,.l [] [] [] [3,4] [] (KV ())),(6000008,.l [] [] [] [3,8] [] (KW ()))]) ((kJb (id:=6000004) x0 (fun v0 a3 v1=>(kIf (c:=x0==(1:Int)) (kXj (alts:=KV ()) a3 true (.here () rfl (.refl _) (.refl _)))
 (kIf (c:=x0==(2:Int)) (kXj (alts:=KV ()) a3 true (.here () rfl (.refl _) (.refl _)))
 (kIf (c:=x0==(3:Int)) (kXj (alts:=KV ()) a3 true (.here () rfl (.refl _) (.refl _)))
 (kXj (alts:=KV ()) a3 false (.next (.here () rfl (.refl _) (.refl _))))))))
 (fun v0=>(kEr (enc:=eI) (0:Int)))
 (fun v0=>(kJb (id:=6000008) v0 (fun v4 a4 v5=>(kIf (c:=v0==(8:Int)) (kXj (alts:=KW ()) a4 true (.here () rfl (.refl _) (.refl _)))
 (kIf (c:=v0==(12:Int)) (kXj (alts:=KW ()) a4 true (.here () rfl (.refl _) (.refl _)))
 (kIf (c:=v0==(18:Int)) (kXj (alts:=KW ()) a4 true (.here () rfl (.refl _) (.refl _)))
 (kXj (alts:=KW ()) a4 false (.next (.here () rfl (.refl _) (.refl _))))))))
 (fun v4=>(kEr (enc:=eI) (1:Int)))
 (fun v4=>(kIf (c:=v4==(11:Int)) (kEr (enc:=eI) (3:Int))
 (kEr (enc:=eI) (2:Int))))))) h)
def Vn(s:Q1)(u:Unit)(o:Unit ⊕ Bool):List Alt:=[⟨fun(x:Unit)=>(Sum.inl x:Unit ⊕ Bool)=o,.exit 0,fun x=>[.undef],fun x=>[]⟩,⟨fun(x:Bool)=>(Sum.inr x:Unit ⊕ Bool)=o,.ret,fun x=>[.bool x],fun x=>[]⟩]
def XE(x1:Q1)(x3:Int):Option (Unit ⊕ Bool):=
 some (List.length x1.fIdx:Int)>>=fun v0=>
 if x3<v0 then
 ix x1.fIdx x3>>=fun v1=>
 some (List.length v1.fAt:Int)>>=fun v2=>
 if(6:Int)<v2 then
 some (.inr false)
 else
 XE x1 (wr (x3+(1:Int)))
 else
 some (.inl ())
 partial_fixpoint
theorem EQ(x1:Q1)(x3:Int)(o:Unit ⊕ Bool)(h:XE x1 x3=some o):LO 190 4 32 [1,3] [.ptr 0 0 0,ii x3] [.cells 0 (Q2 x1).cells] [2] (Vn x1 () o):=
 XE.partial_correctness x1 (fun x3 o=>LO 190 4 32 [1,3] [.ptr 0 0 0,ii x3] [.cells 0 (Q2 x1).cells] [2] (Vn x1 () o))
 (fun XE Q5x x3 o h=>
 Lp2 (hs:=[(20,.n eI 20 none),(21,.split),(27,.e Q7),(30,.n eI 30 none),(31,.split)]) (kb:=[kk 1]) (kbx:=[]) ((kN _ (mLen (sh:=Q7) x1.fIdx) fun v0=>(kIfD (p:=x3<v0) (kIx (enc:=Q7) (l:=x1.fIdx) (k:=x3) fun v1=>(kN _ (mLen (sh:=Qg) v1.fAt) fun v2=>(kIfD (p:=(6:Int)<v2) (kX (alts:=Vn x1 ()) (.inr false) (.next (.here _ rfl (.refl _) (.refl _))))
 (kM0 (alts:=Vn x1 ()) (Q5x (wr (x3+(1:Int))))))))
 (kX (alts:=Vn x1 ()) (.inl ()) (.here _ rfl (.refl _) (.refl _))))) h)) x3 o h
def Vw(s:Q1)(u:Unit)(o:Bool):List Alt:=jb o (fun b=>[.ptr 0 0 0,.bool b]) [.cells 0 (Q2 s).cells]
def C4(x0:Q1):Option Bool:=
 some ()>>=fun v0=>
 (WC x0.fOp>>=fun v2=>
 some (List.length x0.fArgs:Int)>>=fun v3=>
 if v3 !=v2 then
 some true
 else
 some (List.length x0.fIdx:Int)>>=fun v4=>
 if(6:Int)<v4 then
 some true
 else
 some false)>>=fun v1=>if v1 then
 some false
 else
 some ()>>=fun v7=>
 XE x0 (0:Int)>>=fun v8=>(match v8 with
 | (.inl v9)=>
 some true
 | (.inr v10)=>
 some v10)
theorem Sw(x0:Q1)(r:Bool)(h:C4 x0=some r):PU 190 [Q2 x0] (eB r):=
 Pu2 (hs:=[(6,.n eI 6 none),(9,.c eI),(10,.split),(14,.n eI 14 none),(15,.split),(3000005,.l [] [1,3] [kk 1] [2] [] (Vn x0)),(5000001,.l [] [] [] [1,16] [kk 1] (Vw x0))]) ((kJb (id:=5000001) () (fun v0 a4 v1=>(kC (sh:=eI) (FD x0.fOp) fun v2=>(kN _ (mLen (sh:=Qr) x0.fArgs) fun v3=>(kIf (c:=v3 !=v2) (kXj (alts:=Vw x0) a4 true (.here () rfl (.refl _) (.refl _)))
 (kN _ (mLen (sh:=Q7) x0.fIdx) fun v4=>(kIfD (p:=(6:Int)<v4) (kXj (alts:=Vw x0) a4 true (.here () rfl (.refl _) (.refl _)))
 (kXj (alts:=Vw x0) a4 false (.next (.here () rfl (.refl _) (.refl _))))))))))
 (fun v0=>(kEr (enc:=eB) false))
 (fun v0=>(kL2 () (hL:=(EQ x0 (0:Int))) (hA:=fun v7 v9=>(kEr (enc:=eB) true))
 (hB:=fun v7 a5=>(kEr (enc:=eB) a5))))) h)
def Xw(x0:Q1):Option Bool:=
 if(13:Int)≤x0.fOp then
 some (decide (x0.fOp≤(18:Int)))
 else
 some false
theorem VG(x0:Q1)(r:Bool)(h:Xw x0=some r):PU 106 [Q2 x0] (eB r):=
 Pu2 (hs:=[(5,.split)]) ((kIfD (p:=(13:Int)≤x0.fOp) (kEr (enc:=eB) (decide (x0.fOp≤(18:Int))))
 (kEr (enc:=eB) false)) h)
def CX(x0:Int)(x1:Int):Option Bool:=
 if x0==(11:Int) then
 if x1==(0:Int) then
 some true
 else
 if x0==(16:Int) then
 some true
 else
 if x0==(17:Int) then
 some true
 else
 some (x0==(18:Int))
 else
 if x0==(16:Int) then
 some true
 else
 if x0==(17:Int) then
 some true
 else
 some (x0==(18:Int))
theorem AW(x0:Int)(x1:Int)(r:Bool)(h:CX x0 x1=some r):PU 226 [eI x0,eI x1] (eB r):=
 Pu2 (hs:=[(6,.split),(9,.split),(13,.split),(17,.split)]) ((kIf (c:=x0==(11:Int)) (kIf (c:=x1==(0:Int)) (kEr (enc:=eB) true)
 (kIf (c:=x0==(16:Int)) (kEr (enc:=eB) true)
 (kIf (c:=x0==(17:Int)) (kEr (enc:=eB) true)
 (kEr (enc:=eB) (x0==(18:Int))))))
 (kIf (c:=x0==(16:Int)) (kEr (enc:=eB) true)
 (kIf (c:=x0==(17:Int)) (kEr (enc:=eB) true)
 (kEr (enc:=eB) (x0==(18:Int)))))) h)
def VP(s:Q1)(u:Unit)(o:Unit ⊕ Bool):List Alt:=[⟨fun(x:Unit)=>(Sum.inl x:Unit ⊕ Bool)=o,.exit 0,fun x=>[.undef],fun x=>[]⟩,⟨fun(x:Bool)=>(Sum.inr x:Unit ⊕ Bool)=o,.ret,fun x=>[.bool x],fun x=>[]⟩]
def Y9(x1:Q1)(x3:Int):Option (Unit ⊕ Bool):=
 some (List.length x1.fArgs:Int)>>=fun v0=>
 if x3<v0 then
 Option.map Qb.f (ix x1.fArgs x3)>>=fun v1=>
 Xw v1>>=fun v2=>
 CX x1.fOp x3>>=fun v3=>
 if !v2==v3 then
 some (.inr false)
 else
 Y9 x1 (wr (x3+(1:Int)))
 else
 some (.inl ())
 partial_fixpoint
theorem Rr(x1:Q1)(x3:Int)(o:Unit ⊕ Bool)(h:Y9 x1 x3=some o):LO 191 4 36 [1,3] [.ptr 0 0 0,ii x3] [.cells 0 (Q2 x1).cells] [2] (VP x1 () o):=
 Y9.partial_correctness x1 (fun x3 o=>LO 191 4 36 [1,3] [.ptr 0 0 0,ii x3] [.cells 0 (Q2 x1).cells] [2] (VP x1 () o))
 (fun Y9 Q60 x3 o h=>
 Lp2 (hs:=[(21,.n eI 21 none),(22,.split),(28,.e Q2),(30,.c eB),(34,.c eB),(35,.split)]) (kb:=[kk 1]) (kbx:=[]) ((kN _ (mLen (sh:=Qr) x1.fArgs) fun v0=>(kIfD (p:=x3<v0) (kIxR (l:=x1.fArgs) (k:=x3) Yt fun v1=>(kC (sh:=eB) (VG v1) fun v2=>(kC (sh:=eB) (AW x1.fOp x3) fun v3=>(kIf (c:= !v2==v3) (kX (alts:=VP x1 ()) (.inr false) (.next (.here _ rfl (.refl _) (.refl _))))
 (kM0 (alts:=VP x1 ()) (Q60 (wr (x3+(1:Int)))))))))
 (kX (alts:=VP x1 ()) (.inl ()) (.here _ rfl (.refl _) (.refl _))))) h)) x3 o h
def Yl(s:Q1)(u:Unit)(o:Bool):List Alt:=jb o (fun b=>[.ptr 0 0 0,.bool b]) [.cells 0 (Q2 s).cells]
def CW(x0:Q1):Option Bool:=
 some ()>>=fun v0=>
 (if x0.fOp==(1:Int) then
 Ug x0.fType>>=fun v2=>if v2 then
 some false
 else
 some true
 else
 if x0.fOp==(12:Int) then
 Ug x0.fType>>=fun v3=>if v3 then
 some false
 else
 some true
 else
 some false)>>=fun v1=>if v1 then
 some false
 else
 some ()>>=fun v6=>
 Y9 x0 (0:Int)>>=fun v7=>(match v7 with
 | (.inl v8)=>
 some true
 | (.inr v9)=>
 some v9)
theorem AU(x0:Q1)(r:Bool)(h:CW x0=some r):PU 191 [Q2 x0] (eB r):=
 Pu2 (hs:=[(6,.split),(10,.split),(15,.cb),(3000005,.l [] [1,3] [kk 1] [2] [] (VP x0)),(5000001,.l [] [] [] [1,17] [kk 1] (Yl x0))]) ((kJb (id:=5000001) () (fun v0 a4 v1=>(kIf (c:=x0.fOp==(1:Int)) (kCb (CB x0.fType) (kXj (alts:=Yl x0) a4 false (.next (.here () rfl (.refl _) (.refl _))))
 (kXj (alts:=Yl x0) a4 true (.here () rfl (.refl _) (.refl _))))
 (kIf (c:=x0.fOp==(12:Int)) (kCb (CB x0.fType) (kXj (alts:=Yl x0) a4 false (.next (.here () rfl (.refl _) (.refl _))))
 (kXj (alts:=Yl x0) a4 true (.here () rfl (.refl _) (.refl _))))
 (kXj (alts:=Yl x0) a4 false (.next (.here () rfl (.refl _) (.refl _)))))))
 (fun v0=>(kEr (enc:=eB) false))
 (fun v0=>(kL2 () (hL:=(Rr x0 (0:Int))) (hA:=fun v6 v8=>(kEr (enc:=eB) true))
 (hB:=fun v6 v9=>(kEr (enc:=eB) v9))))) h)
def GY(s:Unit)(u:Unit)(o:Int):List Alt:=[⟨fun(x:Int)=>x=o,.exit 0,fun x=>[ii x],fun x=>[]⟩]
def JX(x0:Int)(x1:Int):Option Int:=
 if x1 !=(0:Int) then
 if x1≠(0:Int) then
 some (x0.tmod x1:Int)>>=fun v0=>
 JX x1 v0
 else none
 else
 some x0
 partial_fixpoint
theorem AI(x0:Int)(x1:Int)(o:Int)(h:JX x0 x1=some o):LO 115 1 12 [0,1] [ii x0,ii x1] [] [0] (GY () () o):=
 JX.partial_correctness (fun x0 x1 o=>LO 115 1 12 [0,1] [ii x0,ii x1] [] [0] (GY () () o))
 (fun JX Q4o x0 x1 o h=>
 Lp2 (hs:=[(6,.split),(10,.s),(1,.n eI 1 none)]) (kb:=[]) (kbx:=[]) ((kIf (c:=x1 !=(0:Int)) (kG (p:=x1≠(0:Int)) (kN (x0.tmod x1) rfl fun v0=>(kM0 (alts:=GY () ()) (Q4o x1 v0))))
 (kX (alts:=GY () ()) x0 (.here _ rfl (.refl _) (.refl _)))) h)) x0 x1 o h
def I3(x0:Int)(x1:Int):Option Int:=
 some ()>>=fun v0=>
 JX x0 x1>>=fun v2=>
 some v2
theorem BU(x0:Int)(x1:Int)(r:Int)(h:I3 x0 x1=some r):PU 115 [eI x0,eI x1] (eI r):=
 Pu2 (hs:=[(3000002,.l [] [0,1] [] [0] [] (GY ()))]) ((kL1 () (AI x0 x1) fun v0 v2=>(kEr (enc:=eI) v2)) h)
def Kq(s:(Q6×gVal))(u:Unit)(o:Bool):List Alt:=jb o (fun b=>[.ptr 0 0 0,.ptr 1 0 0,.bool b]) [.cells 0 (Qc (s.1)).cells,.cells 0 (Qk (s.2)).cells]
def Wq(x0:Q6)(x1:gVal):Option Bool:=
 if x0.fKind==(2:Int) then
 if(0:Int)≤wr (x0.fBits - (1:Int)) then
 some (wr ((1:Int)*(2:Int)^min (wr (x0.fBits - (1:Int))).toNat (64:Nat)):Int)>>=fun v0=>
 if x1.fD==(1:Int) then
 if wr ((0:Int) - v0)≤x1.fN then
 some (decide (x1.fN<v0))
 else
 some false
 else
 some false
 else none
 else
 some ()>>=fun v1=>
 (if(2147483647:Int)<x1.fN then
 some true
 else
 if x1.fN< (-2147483647:Int) then
 some true
 else
 if x1.fD< (1:Int) then
 some true
 else
 if(2147483647:Int)<x1.fD then
 some true
 else
 some false)>>=fun v2=>if v2 then
 some false
 else
 if x0.fKind==(3:Int) then
 some (x1.fD==(1:Int))
 else
 I3 (if true=true then max x1.fN (wr ((0:Int) - x1.fN)) else min x1.fN (wr ((0:Int) - x1.fN))) x1.fD>>=fun v5=>
 some (v5==(1:Int))
theorem T3(x0:Q6)(x1:gVal)(r:Bool)(h:Wq x0 x1=some r):PU 90 [Qc x0,Qk x1] (eB r):=
 Pu2 (hs:=[(8,.split),(12,.s),(5,.n eI 5 none),(15,.split),(21,.split),(31,.split),(35,.split),(40,.split),(45,.split),(49,.split),(61,.c eI),(5000004,.l [] [] [] [2,3,46] [kk 2,kk 3] (Kq (x0,x1)))]) ((kIf (c:=x0.fKind==(2:Int)) (kG (p:=(0:Int)≤wr (x0.fBits - (1:Int))) (kN (wr ((1:Int)*(2:Int)^min (wr (x0.fBits - (1:Int))).toNat (64:Nat))) rfl fun v0=>(kIf (c:=x1.fD==(1:Int)) (kIfD (p:=wr ((0:Int) - v0)≤x1.fN) (kEr (enc:=eB) (decide (x1.fN<v0)))
 (kEr (enc:=eB) false))
 (kEr (enc:=eB) false))))
 (kJb (id:=5000004) () (fun v1 a5 v2=>(kIfD (p:=(2147483647:Int)<x1.fN) (kXj (alts:=Kq (x0,x1)) a5 true (.here () rfl (.refl _) (.refl _)))
 (kIfD (p:=x1.fN< (-2147483647:Int)) (kXj (alts:=Kq (x0,x1)) a5 true (.here () rfl (.refl _) (.refl _)))
 (kIfD (p:=x1.fD< (1:Int)) (kXj (alts:=Kq (x0,x1)) a5 true (.here () rfl (.refl _) (.refl _)))
 (kIfD (p:=(2147483647:Int)<x1.fD) (kXj (alts:=Kq (x0,x1)) a5 true (.here () rfl (.refl _) (.refl _)))
 (kXj (alts:=Kq (x0,x1)) a5 false (.next (.here () rfl (.refl _) (.refl _)))))))))
 (fun v1=>(kEr (enc:=eB) false))
 (fun v1=>(kIf (c:=x0.fKind==(3:Int)) (kEr (enc:=eB) (x1.fD==(1:Int)))
 (kC (sh:=eI) (BU (if true=true then max x1.fN (wr ((0:Int) - x1.fN)) else min x1.fN (wr ((0:Int) - x1.fN))) x1.fD) fun v5=>(kEr (enc:=eB) (v5==(1:Int)))))))) h)
def KU(s:gLin)(u:Unit)(o:Unit ⊕ Bool):List Alt:=[⟨fun(x:Unit)=>(Sum.inl x:Unit ⊕ Bool)=o,.exit 0,fun x=>[.undef],fun x=>[]⟩,⟨fun(x:Bool)=>(Sum.inr x:Unit ⊕ Bool)=o,.ret,fun x=>[.bool x],fun x=>[]⟩]
def XL(s:gLin)(u:Int)(o:Bool):List Alt:=jb o (fun b=>[.ptr 0 0 0,ii u,.bool b]) [.cells 0 (Qg s).cells]
def Xa(x1:gLin)(x3:Int):Option (Unit ⊕ Bool):=
 some (List.length x1.fL:Int)>>=fun v0=>
 if x3<v0 then
 some x3>>=fun v1=>
 (ix x1.fL x3>>=fun v3=>
 Uf v3.fName>>=fun v4=>if v4 then
 ix x1.fL x3>>=fun v5=>
 if v5.fBy==(0:Int) then
 some true
 else
 if(0:Int)<x3 then
 ix x1.fL (wr (x3 - (1:Int)))>>=fun v6=>
 ix x1.fL x3>>=fun v7=>
 if !Op.bytesLess v6.fName v7.fName then
 some true
 else
 some false
 else
 some false
 else
 some true)>>=fun v2=>if v2 then
 some (.inr false)
 else
 Xa x1 (wr (v1+(1:Int)))
 else
 some (.inl ())
 partial_fixpoint
theorem Hi(x1:gLin)(x3:Int)(o:Unit ⊕ Bool)(h:Xa x1 x3=some o):LO 227 2 48 [1,3] [.ptr 0 0 0,ii x3] [.cells 0 (Qg x1).cells] [2] (KU x1 () o):=
 Xa.partial_correctness x1 (fun x3 o=>LO 227 2 48 [1,3] [.ptr 0 0 0,ii x3] [.cells 0 (Qg x1).cells] [2] (KU x1 () o))
 (fun Xa Q4c x3 o h=>
 Lp2 (hs:=[(7,.n eI 7 none),(8,.split),(14,.e Qq),(17,.cb),(23,.e Qq),(26,.split),(30,.split),(36,.e Qq),(42,.e Qq),(45,.split),(5000004,.l [] [] [] [1,3,47] [kk 1] (XL x1))]) (kb:=[kk 1]) (kbx:=[]) ((kN _ (mLen (sh:=Qq) x1.fL) fun v0=>(kIfD (p:=x3<v0) (kJb (id:=5000004) x3 (fun v1 a5 v2=>(kIx (enc:=Qq) (l:=x1.fL) (k:=x3) fun v3=>(kCb (CA v3.fName) (kIx (enc:=Qq) (l:=x1.fL) (k:=x3) fun v5=>(kIf (c:=v5.fBy==(0:Int)) (kXj (alts:=XL x1) a5 true (.here () rfl (.refl _) (.refl _)))
 (kIfD (p:=(0:Int)<x3) (kIx (enc:=Qq) (l:=x1.fL) (k:=wr (x3 - (1:Int))) fun v6=>(kIx (enc:=Qq) (l:=x1.fL) (k:=x3) fun v7=>(kIf (c:= !Op.bytesLess v6.fName v7.fName) (kXj (alts:=XL x1) a5 true (.here () rfl (.refl _) (.refl _)))
 (kXj (alts:=XL x1) a5 false (.next (.here () rfl (.refl _) (.refl _)))))))
 (kXj (alts:=XL x1) a5 false (.next (.here () rfl (.refl _) (.refl _)))))))
 (kXj (alts:=XL x1) a5 true (.here () rfl (.refl _) (.refl _))))))
 (fun v1=>(kX (alts:=KU x1 ()) (.inr false) (.next (.here _ rfl (.refl _) (.refl _)))))
 (fun v1=>(kM0 (alts:=KU x1 ()) (Q4c (wr (v1+(1:Int)))))))
 (kX (alts:=KU x1 ()) (.inl ()) (.here _ rfl (.refl _) (.refl _))))) h)) x3 o h
def Vd(x0:gLin):Option Bool:=
 some ()>>=fun v0=>
 Xa x0 (0:Int)>>=fun v1=>(match v1 with
 | (.inl v2)=>
 some true
 | (.inr v3)=>
 some v3)
theorem Dn(x0:gLin)(r:Bool)(h:Vd x0=some r):PU 227 [Qg x0] (eB r):=
 Pu2 (hs:=[(3000003,.l [] [1,3] [kk 1] [2] [] (KU x0))]) ((kL2 () (hL:=(Hi x0 (0:Int))) (hA:=fun v0 v2=>(kEr (enc:=eB) true))
 (hB:=fun v0 v3=>(kEr (enc:=eB) v3))) h)
def Vm(s:Q1)(u:Int)(o:Unit ⊕ Bool):List Alt:=[⟨fun(x:Unit)=>(Sum.inl x:Unit ⊕ Bool)=o,.exit 2,fun x=>[.ptr 0 0 0,.undef,ii u],fun x=>[.cells 0 (Q2 s).cells]⟩,⟨fun(x:Bool)=>(Sum.inr x:Unit ⊕ Bool)=o,.ret,fun x=>[.ptr 0 0 0,.bool x,ii u],fun x=>[.cells 0 (Q2 s).cells]⟩]
def XD(x1:Q1)(x3:Int)(x4:Int):Option (Unit ⊕ Bool):=
 ix x1.fIdx x3>>=fun v0=>
 some (List.length v0.fAt:Int)>>=fun v1=>
 if x4<v1 then
 ix x1.fIdx x3>>=fun v2=>
 ix v2.fAt x4>>=fun v3=>
 Vd v3>>=fun v4=>if v4 then
 XD x1 x3 (wr (x4+(1:Int)))
 else
 some (.inr false)
 else
 some (.inl ())
 partial_fixpoint
theorem EP(x1:Q1)(x3:Int)(x4:Int)(o:Unit ⊕ Bool)(h:XD x1 x3 x4=some o):LO 192 9 59 [1,3,4] [.ptr 0 0 0,ii x3,ii x4] [.cells 0 (Q2 x1).cells] [1,2,3] (Vm x1 x3 o):=
 XD.partial_correctness x1 x3 (fun x4 o=>LO 192 9 59 [1,3,4] [.ptr 0 0 0,ii x3,ii x4] [.cells 0 (Q2 x1).cells] [1,2,3] (Vm x1 x3 o))
 (fun XD Q5s x4 o h=>
 Lp2 (hs:=[(41,.e Q7),(44,.n eI 44 none),(45,.split),(51,.e Q7),(55,.e Qg),(57,.cb)]) (kb:=[kk 1]) (kbx:=[kk 1]) ((kIx (enc:=Q7) (l:=x1.fIdx) (k:=x3) fun v0=>(kN _ (mLen (sh:=Qg) v0.fAt) fun v1=>(kIfD (p:=x4<v1) (kIx (enc:=Q7) (l:=x1.fIdx) (k:=x3) fun v2=>(kIx (enc:=Qg) (l:=v2.fAt) (k:=x4) fun v3=>(kCb (Dn v3) (kM0 (alts:=Vm x1 x3) (Q5s (wr (x4+(1:Int)))))
 (kX (alts:=Vm x1 x3) (.inr false) (.next (.here _ rfl (.refl _) (.refl _)))))))
 (kX (alts:=Vm x1 x3) (.inl ()) (.here _ rfl (.refl _) (.refl _)))))) h)) x4 o h
def Kk(s:Q1)(u:Unit)(o:Unit ⊕ Bool):List Alt:=[⟨fun(x:Unit)=>(Sum.inl x:Unit ⊕ Bool)=o,.exit 0,fun x=>[.undef],fun x=>[]⟩,⟨fun(x:Bool)=>(Sum.inr x:Unit ⊕ Bool)=o,.ret,fun x=>[.bool x],fun x=>[]⟩]
def XC(x1:Q1)(x3:Int):Option (Unit ⊕ Bool):=
 some (List.length x1.fIdx:Int)>>=fun v0=>
 if x3<v0 then
 ix x1.fIdx x3>>=fun v1=>
 Vd v1.fLin>>=fun v2=>if v2 then
 some x3>>=fun v3=>
 XD x1 x3 (0:Int)>>=fun v4=>(match v4 with
 | (.inl v5)=>
 XC x1 (wr (v3+(1:Int)))
 | (.inr v6)=>
 some (.inr v6))
 else
 some (.inr false)
 else
 some (.inl ())
 partial_fixpoint
theorem EO(x1:Q1)(x3:Int)(o:Unit ⊕ Bool)(h:XC x1 x3=some o):LO 192 4 59 [1,3] [.ptr 0 0 0,ii x3] [.cells 0 (Q2 x1).cells] [2] (Kk x1 () o):=
 XC.partial_correctness x1 (fun x3 o=>LO 192 4 59 [1,3] [.ptr 0 0 0,ii x3] [.cells 0 (Q2 x1).cells] [2] (Kk x1 () o))
 (fun XC Q5r x3 o h=>
 Lp2 (hs:=[(25,.n eI 25 none),(26,.split),(32,.e Q7),(35,.cb),(3000010,.l [] [1,3,4] [kk 1] [1,2,3] [kk 1] (Vm x1))]) (kb:=[kk 1]) (kbx:=[]) ((kN _ (mLen (sh:=Q7) x1.fIdx) fun v0=>(kIfD (p:=x3<v0) (kIx (enc:=Q7) (l:=x1.fIdx) (k:=x3) fun v1=>(kCb (Dn v1.fLin) (kL2 x3 (hL:=(EP x1 x3 (0:Int))) (hA:=fun v3 v5=>(kM0 (alts:=Kk x1 ()) (Q5r (wr (v3+(1:Int))))))
 (hB:=fun v3 v6=>(kX (alts:=Kk x1 ()) (.inr v6) (.next (.here _ rfl (.refl _) (.refl _))))))
 (kX (alts:=Kk x1 ()) (.inr false) (.next (.here _ rfl (.refl _) (.refl _))))))
 (kX (alts:=Kk x1 ()) (.inl ()) (.here _ rfl (.refl _) (.refl _))))) h)) x3 o h
def XX(s:Q1)(u:Unit)(o:Bool):List Alt:=jb o (fun b=>[.ptr 0 0 0,.bool b]) [.cells 0 (Q2 s).cells]
def C3(x0:Q1):Option Bool:=
 some ()>>=fun v0=>
 (if x0.fOp==(1:Int) then
 Wq x0.fType x0.fVal>>=fun v2=>if v2 then
 Vd x0.fLin>>=fun v3=>if v3 then
 some false
 else
 some true
 else
 some true
 else
 Vd x0.fLin>>=fun v4=>if v4 then
 some false
 else
 some true)>>=fun v1=>if v1 then
 some false
 else
 some ()>>=fun v7=>
 XC x0 (0:Int)>>=fun v8=>(match v8 with
 | (.inl v9)=>
 some true
 | (.inr v10)=>
 some v10)
theorem Sv(x0:Q1)(r:Bool)(h:C3 x0=some r):PU 192 [Q2 x0] (eB r):=
 Pu2 (hs:=[(7,.split),(13,.cb),(19,.cb),(3000005,.l [] [1,3] [kk 1] [2] [] (Kk x0)),(5000001,.l [] [] [] [1,21] [kk 1] (XX x0))]) ((kJb (id:=5000001) () (fun v0 a4 v1=>(kIf (c:=x0.fOp==(1:Int)) (kCb (T3 x0.fType x0.fVal) (kCb (Dn x0.fLin) (kXj (alts:=XX x0) a4 false (.next (.here () rfl (.refl _) (.refl _))))
 (kXj (alts:=XX x0) a4 true (.here () rfl (.refl _) (.refl _))))
 (kXj (alts:=XX x0) a4 true (.here () rfl (.refl _) (.refl _))))
 (kCb (Dn x0.fLin) (kXj (alts:=XX x0) a4 false (.next (.here () rfl (.refl _) (.refl _))))
 (kXj (alts:=XX x0) a4 true (.here () rfl (.refl _) (.refl _))))))
 (fun v0=>(kEr (enc:=eB) false))
 (fun v0=>(kL2 () (hL:=(EO x0 (0:Int))) (hA:=fun v7 v9=>(kEr (enc:=eB) true))
 (hB:=fun v7 a5=>(kEr (enc:=eB) a5))))) h)
def VN(s:Q1)(u:Unit)(o:Unit ⊕ Int):List Alt:=[⟨fun(x:Unit)=>(Sum.inl x:Unit ⊕ Int)=o,.exit 1,fun x=>[.undef],fun x=>[]⟩,⟨fun(x:Int)=>(Sum.inr x:Unit ⊕ Int)=o,.ret,fun x=>[ii x],fun x=>[]⟩]
mutual
def Jm(x0:Q1):Option Int:=
 CV x0>>=fun v0=>if v0 then
 CU x0>>=fun v1=>if v1 then
 C4 x0>>=fun v2=>if v2 then
 CW x0>>=fun v3=>if v3 then
 C3 x0>>=fun v4=>if v4 then
 some ()>>=fun v5=>
 Y7 x0 (0:Int)>>=fun v6=>(match v6 with
 | (.inl v7)=>
 some (0:Int)
 | (.inr v8)=>
 some v8)
 else
 some (1:Int)
 else
 some (10:Int)
 else
 some (11:Int)
 else
 some (7:Int)
 else
 some (5:Int)
 partial_fixpoint
def Y7(x1:Q1)(x3:Int):Option (Unit ⊕ Int):=
 some (List.length x1.fArgs:Int)>>=fun v0=>
 if x3<v0 then
 Option.map Qb.f (ix x1.fArgs x3)>>=fun v1=>
 Jm v1>>=fun v2=>
 if v2 !=(0:Int) then
 some (.inr v2)
 else
 Y7 x1 (wr (x3+(1:Int)))
 else
 some (.inl ())
 partial_fixpoint
end
theorem AA:(∀(x0:Q1) (r:Int),Jm x0=some r→PU 157 [Q2 x0] (eI r))∧(∀(x1:Q1) (x3:Int) (o:Unit ⊕ Int),Y7 x1 x3=some o→LO 157 12 41 [1,3] [.ptr 0 0 0,ii x3] [.cells 0 (Q2 x1).cells] [2] (VN x1 () o)):=
 Jm.mutual_partial_correctness (fun x0 r=>PU 157 [Q2 x0] (eI r)) (fun x1 x3 o=>LO 157 12 41 [1,3] [.ptr 0 0 0,ii x3] [.cells 0 (Q2 x1).cells] [2] (VN x1 () o))
 (fun Y7 Q5v x0 r h=>
 Pu2 (hs:=[(7,.cb),(11,.cb),(15,.cb),(19,.cb),(23,.cb),(3000013,.l [] [1,3] [kk 1] [2] [] (VN x0))]) ((kCb (AT x0) (kCb (AS x0) (kCb (Sw x0) (kCb (AU x0) (kCb (Sv x0) (kL2 () (hL:=(Q5v x0 (0:Int))) (hA:=fun v5 v7=>(kEr (enc:=eI) (0:Int)))
 (hB:=fun v5 v8=>(kEr (enc:=eI) v8)))
 (kEr (enc:=eI) (1:Int)))
 (kEr (enc:=eI) (10:Int)))
 (kEr (enc:=eI) (11:Int)))
 (kEr (enc:=eI) (7:Int)))
 (kEr (enc:=eI) (5:Int))) h))
 (fun Jm Y7 Q5u Q5v x1 x3 o h=>
 Lp2 (hs:=[(28,.n eI 28 none),(29,.split),(35,.e Q2),(37,.c eI),(39,.split)]) (kb:=[kk 1]) (kbx:=[]) ((kN _ (mLen (sh:=Qr) x1.fArgs) fun v0=>(kIfD (p:=x3<v0) (kIxR (l:=x1.fArgs) (k:=x3) Yt fun v1=>(kC (sh:=eI) (Q5u v1) fun v2=>(kIf (c:=v2 !=(0:Int)) (kX (alts:=VN x1 ()) (.inr v2) (.next (.here _ rfl (.refl _) (.refl _))))
 (kM0 (alts:=VN x1 ()) (Q5v x1 (wr (x3+(1:Int))))))))
 (kX (alts:=VN x1 ()) (.inl ()) (.here _ rfl (.refl _) (.refl _))))) h))
theorem FE(x0:Q1)(r:Int)(h:Jm x0=some r):PU 157 [Q2 x0] (eI r):=(AA).1 x0 r h
def GQ(x0:Q1):Option Int:=
 NZ x0>>=fun v0=>
 if(40:Int)<v0 then
 some (13:Int)
 else
 WB x0>>=fun v1=>
 if(2000:Int)<v1 then
 some (2:Int)
 else
 Jm x0>>=fun v2=>
 some v2
theorem Ro(x0:Q1)(r:Int)(h:GQ x0=some r):PU 126 [Q2 x0] (eI r):=
 Pu2 (hs:=[(4,.c eI),(5,.split),(7,.c eI),(8,.split),(10,.c eI)]) ((kC (sh:=eI) (AQ x0) fun v0=>(kIfD (p:=(40:Int)<v0) (kEr (enc:=eI) (13:Int))
 (kC (sh:=eI) (FC x0) fun v1=>(kIfD (p:=(2000:Int)<v1) (kEr (enc:=eI) (2:Int))
 (kC (sh:=eI) (FE x0) fun v2=>(kEr (enc:=eI) v2)))))) h)
def Gv(s:Q1)(u:Unit)(o:List Qb):List Alt:=[⟨fun(x:List Qb)=>x=o,.exit 0,fun x=>[.sl 13 (List.map Qr x)],fun x=>[]⟩]
mutual
def Uh(x0:Q1):Option (List Qb):=
 some ()>>=fun v0=>
 Ka x0 [(Qb.mk x0)] (0:Int)>>=fun v2=>
 some v2
 partial_fixpoint
def Ka(x1:Q1)(x3:List Qb)(x4:Int):Option (List Qb):=
 some (List.length x1.fArgs:Int)>>=fun v0=>
 if x4<v0 then
 Option.map Qb.f (ix x1.fArgs x4)>>=fun v1=>
 Uh v1>>=fun v2=>
 if(x3.length+(List.map Qr v2).length)*(160:Nat)≤(140737488355328:Nat)∧x3.length+(List.map Qr v2).length≤(9223372036854775807:Nat) then
 some (x3++v2)>>=fun v3=>
 Ka x1 v3 (wr (x4+(1:Int)))
 else none
 else
 some x3
 partial_fixpoint
end
theorem Fq:(∀(x0:Q1) (r:List Qb),Uh x0=some r→PU 127 [Q2 x0] (YO r))∧(∀(x1:Q1) (x3:List Qb) (x4:Int) (o:List Qb),Ka x1 x3 x4=some o→LO 127 3 23 [1,3,4] [.ptr 0 0 0,.ow 1 0 13 (List.length x3),ii x4] [.cells 0 (Q2 x1).cells,.own 0 13 (List.map Qr x3)] [3] (Gv x1 () o)):=
 Uh.mutual_partial_correctness (fun x0 r=>PU 127 [Q2 x0] (YO r)) (fun x1 x3 x4 o=>LO 127 3 23 [1,3,4] [.ptr 0 0 0,.ow 1 0 13 (List.length x3),ii x4] [.cells 0 (Q2 x1).cells,.own 0 13 (List.map Qr x3)] [3] (Gv x1 () o))
 (fun Ka Q5o x0 r h=>
 Pu2 (hs:=[(3000004,.l [] [1,3,4] [kk 1,{slot:=3,own:=13}] [3] [{slot:=3,fz:=true}] (Gv x0))]) ((kL1 () (fun y hy=>Yg.le (.cons (LeV.refl (AV.ptr (0:Nat) (0:Nat) (0:Nat))) (.cons (LeV.refl (AV.ow (1:Nat) (0:Nat) (13:Nat) (1:Nat))) (.cons (LeV.refl (ii (0:Int))) .nil))) (.cons (LeB.refl (Box.cells (0:Nat) [ii x0.fOp,AV.str x0.fName,ii x0.fVal.fN,ii x0.fVal.fD,ii x0.fType.fKind,ii x0.fType.fBits,ii x0.fType.fFrac,ii x0.fType.fRound,ii x0.fType.fOver,ii x0.fLin.fK,AV.sl (2:Nat) (List.map Qq x0.fLin.fL),AV.sl (4:Nat) (List.map Q7 x0.fIdx),AV.sl (13:Nat) (List.map Qr x0.fArgs)])) (.cons (LeB.own (0:Nat) (13:Nat) (.cons (legExpr x0) .nil)) .nil)) (Q5o x0 [(Qb.mk x0)] (0:Int) y hy)) fun v0 v2=>(kEr (enc:=YO) v2)) h))
 (fun Uh Ka Q5n Q5o x1 x3 x4 o h=>
 Lp2 (hs:=[(10,.n eI 10 none),(11,.split),(18,.e Q2),(20,.c YO),(21,.z [{slot:=14,own:=13}] (some (.n Qr 21 (some .a))))]) (kb:=[kk 1,{slot:=3,own:=13}]) (kbx:=[{slot:=3,fz:=true}]) ((kN _ (mLen (sh:=Qr) x1.fArgs) fun v0=>(kIfD (p:=x4<v0) (kIxR (l:=x1.fArgs) (k:=x4) Yt fun v1=>(kC (sh:=YO) (Q5n v1) fun v2=>(kA (q:=(x3.length+(List.map Qr v2).length)*(160:Nat)≤(140737488355328:Nat)∧x3.length+(List.map Qr v2).length≤(9223372036854775807:Nat)) (sh:=Qr) (l:=x3) (kO (sh:=Qr) (x3++v2) (mAA (sh:=Qr) x3 v2) (nAA (sh:=Qr) x3 v2) fun v3=>(kM0 (alts:=Gv x1 ()) (Q5o x1 v3 (wr (x4+(1:Int)))))))))
 (kT (nM (sh:=Qr) x3) (kX (alts:=Gv x1 ()) x3 (.here _ rfl (.refl _) (.refl _)))))) h))
theorem Ow(x0:Q1)(r:List Qb)(h:Uh x0=some r):PU 127 [Q2 x0] (YO r):=(Fq).1 x0 r h
def VS(s:((List gLin)× (List Qt)×Int))(u:Int)(o:Bool):List Alt:=[⟨fun(x:Bool)=>x=o,.exit 4,fun x=>[.sl 2 (List.map Qg s.1),.sl 2 (List.map Qs s.2.1),ii s.2.2,ii u,.bool x],fun x=>[]⟩]
def Xo(x0:List gLin)(x1:List Qt)(x5:Int)(x6:Int)(x7:Bool)(x8:Int):Option Bool:=
 some (List.length x1:Int)>>=fun v0=>
 if x8<v0 then
 if x7 then
 Xo x0 x1 x5 x6 true (wr (x8+(1:Int)))
 else
 ix x1 x8>>=fun v1=>
 ix x0 x5>>=fun v2=>
 ix v2.fL x6>>=fun v3=>
 Xo x0 x1 x5 x6 (v1.fName==v3.fName) (wr (x8+(1:Int)))
 else
 some x7
 partial_fixpoint
theorem Rv(x0:List gLin)(x1:List Qt)(x5:Int)(x6:Int)(x7:Bool)(x8:Int)(o:Bool)(h:Xo x0 x1 x5 x6 x7 x8=some o):LO 158 9 51 [0,1,5,6,7,8] [.sl 2 (List.map Qg x0),.sl 2 (List.map Qs x1),ii x5,ii x6,.bool x7,ii x8] [] [0,1,5,6,7] (VS (x0,x1,x5) x6 o):=
 Xo.partial_correctness x0 x1 x5 x6 (fun x7 x8 o=>LO 158 9 51 [0,1,5,6,7,8] [.sl 2 (List.map Qg x0),.sl 2 (List.map Qs x1),ii x5,ii x6,.bool x7,ii x8] [] [0,1,5,6,7] (VS (x0,x1,x5) x6 o))
 (fun Xo Q6a x7 x8 o h=>
 Lp2 (hs:=[(27,.n eI 27 none),(28,.split),(31,.split),(35,.e Qs),(40,.e Qg),(44,.e Qq)]) (kb:=[]) (kbx:=[]) ((kN _ (mLen (sh:=Qs) x1) fun v0=>(kIfD (p:=x8<v0) (kIf (c:=x7) (kM0 (alts:=VS (x0,x1,x5) x6) (Q6a true (wr (x8+(1:Int)))))
 (kIx (enc:=Qs) (l:=x1) (k:=x8) fun v1=>(kIx (enc:=Qg) (l:=x0) (k:=x5) fun v2=>(kIx (enc:=Qq) (l:=v2.fL) (k:=x6) fun v3=>(kM0 (alts:=VS (x0,x1,x5) x6) (Q6a (v1.fName==v3.fName) (wr (x8+(1:Int)))))))))
 (kX (alts:=VS (x0,x1,x5) x6) x7 (.here _ rfl (.refl _) (.refl _))))) h)) x7 x8 o h
def VR(s:((List gLin)× (List Qt)))(u:Int)(o:Unit ⊕ Bool):List Alt:=[⟨fun(x:Unit)=>(Sum.inl x:Unit ⊕ Bool)=o,.exit 2,fun x=>[.sl 2 (List.map Qg s.1),.sl 2 (List.map Qs s.2),.undef,ii u],fun x=>[]⟩,⟨fun(x:Bool)=>(Sum.inr x:Unit ⊕ Bool)=o,.ret,fun x=>[.sl 2 (List.map Qg s.1),.sl 2 (List.map Qs s.2),.bool x,ii u],fun x=>[]⟩]
def Yb(x0:List gLin)(x1:List Qt)(x5:Int)(x6:Int):Option (Unit ⊕ Bool):=
 ix x0 x5>>=fun v0=>
 some (List.length v0.fL:Int)>>=fun v1=>
 if x6<v1 then
 some x6>>=fun v2=>
 Xo x0 x1 x5 x6 false (0:Int)>>=fun v4=>
 if v4 then
 Yb x0 x1 x5 (wr (v2+(1:Int)))
 else
 some (.inr false)
 else
 some (.inl ())
 partial_fixpoint
theorem Ru(x0:List gLin)(x1:List Qt)(x5:Int)(x6:Int)(o:Unit ⊕ Bool)(h:Yb x0 x1 x5 x6=some o):LO 158 5 51 [0,1,5,6] [.sl 2 (List.map Qg x0),.sl 2 (List.map Qs x1),ii x5,ii x6] [] [0,1,4,5] (VR (x0,x1) x5 o):=
 Yb.partial_correctness x0 x1 x5 (fun x6 o=>LO 158 5 51 [0,1,5,6] [.sl 2 (List.map Qg x0),.sl 2 (List.map Qs x1),ii x5,ii x6] [] [0,1,4,5] (VR (x0,x1) x5 o))
 (fun Yb Q69 x6 o h=>
 Lp2 (hs:=[(18,.e Qg),(21,.n eI 21 none),(22,.split),(49,.split),(3000010,.l [] [0,1,5,6,7,8] [] [0,1,5,6,7] [] (VS (x0,x1,x5)))]) (kb:=[]) (kbx:=[]) ((kIx (enc:=Qg) (l:=x0) (k:=x5) fun v0=>(kN _ (mLen (sh:=Qq) v0.fL) fun v1=>(kIfD (p:=x6<v1) (kL1 x6 (Rv x0 x1 x5 x6 false (0:Int)) fun v2 v4=>(kIf (c:=v4) (kM0 (alts:=VR (x0,x1) x5) (Q69 (wr (v2+(1:Int)))))
 (kX (alts:=VR (x0,x1) x5) (.inr false) (.next (.here _ rfl (.refl _) (.refl _))))))
 (kX (alts:=VR (x0,x1) x5) (.inl ()) (.here _ rfl (.refl _) (.refl _)))))) h)) x6 o h
def VQ(s:((List gLin)× (List Qt)))(u:Unit)(o:Unit ⊕ Bool):List Alt:=[⟨fun(x:Unit)=>(Sum.inl x:Unit ⊕ Bool)=o,.exit 0,fun x=>[.undef],fun x=>[]⟩,⟨fun(x:Bool)=>(Sum.inr x:Unit ⊕ Bool)=o,.ret,fun x=>[.bool x],fun x=>[]⟩]
def Ya(x0:List gLin)(x1:List Qt)(x5:Int):Option (Unit ⊕ Bool):=
 some (List.length x0:Int)>>=fun v0=>
 if x5<v0 then
 some x5>>=fun v1=>
 Yb x0 x1 x5 (0:Int)>>=fun v2=>(match v2 with
 | (.inl v3)=>
 Ya x0 x1 (wr (v1+(1:Int)))
 | (.inr v4)=>
 some (.inr v4))
 else
 some (.inl ())
 partial_fixpoint
theorem Rt(x0:List gLin)(x1:List Qt)(x5:Int)(o:Unit ⊕ Bool)(h:Ya x0 x1 x5=some o):LO 158 2 51 [0,1,5] [.sl 2 (List.map Qg x0),.sl 2 (List.map Qs x1),ii x5] [] [4] (VQ (x0,x1) () o):=
 Ya.partial_correctness x0 x1 (fun x5 o=>LO 158 2 51 [0,1,5] [.sl 2 (List.map Qg x0),.sl 2 (List.map Qs x1),ii x5] [] [4] (VQ (x0,x1) () o))
 (fun Ya Q68 x5 o h=>
 Lp2 (hs:=[(11,.n eI 11 none),(12,.split),(3000006,.l [] [0,1,5,6] [] [0,1,4,5] [] (VR (x0,x1)))]) (kb:=[]) (kbx:=[]) ((kN _ (mLen (sh:=Qg) x0) fun v0=>(kIfD (p:=x5<v0) (kL2 x5 (hL:=(Ru x0 x1 x5 (0:Int))) (hA:=fun v1 v3=>(kM0 (alts:=VQ (x0,x1) ()) (Q68 (wr (v1+(1:Int))))))
 (hB:=fun v1 v4=>(kX (alts:=VQ (x0,x1) ()) (.inr v4) (.next (.here _ rfl (.refl _) (.refl _))))))
 (kX (alts:=VQ (x0,x1) ()) (.inl ()) (.here _ rfl (.refl _) (.refl _))))) h)) x5 o h
def D6(x0:List gLin)(x1:List Qt):Option Bool:=
 some ()>>=fun v0=>
 Ya x0 x1 (0:Int)>>=fun v1=>(match v1 with
 | (.inl v2)=>
 some true
 | (.inr v3)=>
 some v3)
theorem IM(x0:List gLin)(x1:List Qt)(r:Bool)(h:D6 x0 x1=some r):PU 158 [GD x0,G4 x1] (eB r):=
 Pu2 (hs:=[(3000003,.l [] [0,1,5] [] [4] [] (VQ (x0,x1)))]) ((kL2 () (hL:=(Rt x0 x1 (0:Int))) (hA:=fun v0 v2=>(kEr (enc:=eB) true))
 (hB:=fun v0 v3=>(kEr (enc:=eB) v3))) h)
def UV(s:List Qi)(u:Unit)(o:List gLin):List Alt:=[⟨fun(x:List gLin)=>x=o,.exit 0,fun x=>[.sl 2 (List.map Qg x)],fun x=>[]⟩]
def YG(x0:List Qi)(x3:List gLin)(x4:Int):Option (List gLin):=
 some (List.length x0:Int)>>=fun v0=>
 if x4<v0 then
 ix x0 x4>>=fun v1=>
 if(x3.length+(1:Nat))*(32:Nat)≤(140737488355328:Nat)∧x3.length+(1:Nat)≤(9223372036854775807:Nat) then
 some (x3++[v1.fLin])>>=fun v2=>
 ix x0 x4>>=fun v3=>
 if(v2.length+(List.map Qg v3.fAt).length)*(32:Nat)≤(140737488355328:Nat)∧v2.length+(List.map Qg v3.fAt).length≤(9223372036854775807:Nat) then
 some (v2++v3.fAt)>>=fun v4=>
 YG x0 v4 (wr (x4+(1:Int)))
 else none
 else none
 else
 some x3
 partial_fixpoint
theorem Ti(x0:List Qi)(x3:List gLin)(x4:Int)(o:List gLin)(h:YG x0 x3 x4=some o):LO 159 3 27 [0,3,4] [.sl 4 (List.map Q7 x0),.ow 0 0 2 (List.length x3),ii x4] [.own 0 2 (List.map Qg x3)] [3] (UV x0 () o):=
 YG.partial_correctness x0 (fun x3 x4 o=>LO 159 3 27 [0,3,4] [.sl 4 (List.map Q7 x0),.ow 0 0 2 (List.length x3),ii x4] [.own 0 2 (List.map Qg x3)] [3] (UV x0 () o))
 (fun YG Q6f x3 x4 o h=>
 Lp2 (hs:=[(7,.n eI 7 none),(8,.split),(14,.e Q7),(18,.z [{slot:=11,own:=2}] (some (.n Qg 18 (some .a)))),(22,.e Q7),(25,.z [{slot:=19,own:=2}] (some (.n Qg 25 (some .a))))]) (kb:=[{slot:=3,own:=2}]) (kbx:=[{slot:=3,fz:=true}]) ((kN _ (mLen (sh:=Q7) x0) fun v0=>(kIfD (p:=x4<v0) (kIx (enc:=Q7) (l:=x0) (k:=x4) fun v1=>(kA (q:=(x3.length+(1:Nat))*(32:Nat)≤(140737488355328:Nat)∧x3.length+(1:Nat)≤(9223372036854775807:Nat)) (sh:=Qg) (l:=x3) (kO (sh:=Qg) (x3++[v1.fLin]) (mA (sh:=Qg) x3 v1.fLin) (nA x3 v1.fLin) fun v2=>(kIx (enc:=Q7) (l:=x0) (k:=x4) fun v3=>(kA (q:=(v2.length+(List.map Qg v3.fAt).length)*(32:Nat)≤(140737488355328:Nat)∧v2.length+(List.map Qg v3.fAt).length≤(9223372036854775807:Nat)) (sh:=Qg) (l:=v2) (kO (sh:=Qg) (v2++v3.fAt) (mAA (sh:=Qg) v2 v3.fAt) (nAA (sh:=Qg) v2 v3.fAt) fun v4=>(kM0 (alts:=UV x0 ()) (Q6f v4 (wr (x4+(1:Int)))))))))))
 (kT (nM (sh:=Qg) x3) (kX (alts:=UV x0 ()) x3 (.here _ rfl (.refl _) (.refl _)))))) h)) x3 x4 o h
def WI(x0:List Qi):Option (List gLin):=
 some ()>>=fun v0=>
 YG x0 [] (0:Int)>>=fun v2=>
 some v2
theorem FK(x0:List Qi)(r:List gLin)(h:WI x0=some r):PU 159 [VX x0] (GD r):=
 Pu2 (hs:=[(3000004,.l [] [0,3,4] [{slot:=3,own:=2}] [3] [{slot:=3,fz:=true}] (UV x0))]) ((kL1 () (Ti x0 [] (0:Int)) fun v0 v2=>(kEr (enc:=GD) v2)) h)
def Y1(s:(Qd×Q1))(u:Unit)(o:Unit ⊕ Int):List Alt:=[⟨fun(x:Unit)=>(Sum.inl x:Unit ⊕ Int)=o,.exit 0,fun x=>[.undef],fun x=>[]⟩,⟨fun(x:Int)=>(Sum.inr x:Unit ⊕ Int)=o,.ret,fun x=>[ii x],fun x=>[]⟩]
def Xq(x3:Qd)(x5:Q1)(x9:Int):Option (Unit ⊕ Int):=
 some (List.length x5.fIdx:Int)>>=fun v0=>
 if x9<v0 then
 ix x5.fIdx x9>>=fun v1=>
 if v1.fFrom==[] then
 Xq x3 x5 (wr (x9+(1:Int)))
 else
 ix x5.fIdx x9>>=fun v2=>
 KY x3 v2.fFrom>>=fun v3=>
 if v3.snd then
 if v3.fst.fType.fKind !=(3:Int) then
 some (.inr (10:Int))
 else
 ix x5.fIdx x9>>=fun v4=>
 some (List.length v3.fst.fDims:Int)>>=fun v5=>
 some (List.length v4.fAt:Int)>>=fun v6=>
 if v5 !=v6 then
 some (.inr (11:Int))
 else
 Xq x3 x5 (wr (x9+(1:Int)))
 else
 some (.inr (9:Int))
 else
 some (.inl ())
 partial_fixpoint
theorem Rw(x3:Qd)(x5:Q1)(x9:Int)(o:Unit ⊕ Int)(h:Xq x3 x5 x9=some o):LO 128 11 90 [3,5,9] [.ptr 0 0 0,.ptr 1 0 0,ii x9] [.cells 0 (Qp x3).cells,.cells 0 (Q2 x5).cells] [6] (Y1 (x3,x5) () o):=
 Xq.partial_correctness x3 x5 (fun x9 o=>LO 128 11 90 [3,5,9] [.ptr 0 0 0,.ptr 1 0 0,ii x9] [.cells 0 (Qp x3).cells,.cells 0 (Q2 x5).cells] [6] (Y1 (x3,x5) () o))
 (fun Xq Q6g x9 o h=>
 Lp2 (hs:=[(48,.n eI 48 none),(49,.split),(55,.e Q7),(58,.split),(64,.e Q7),(67,.c QD),(71,.split),(77,.split),(81,.n eI 81 none),(85,.e Q7),(88,.n eI 88 none),(89,.split)]) (kb:=[kk 3,kk 5]) (kbx:=[]) ((kN _ (mLen (sh:=Q7) x5.fIdx) fun v0=>(kIfD (p:=x9<v0) (kIx (enc:=Q7) (l:=x5.fIdx) (k:=x9) fun v1=>(kIf (c:=v1.fFrom==[]) (kM0 (alts:=Y1 (x3,x5) ()) (Q6g (wr (x9+(1:Int)))))
 (kIx (enc:=Q7) (l:=x5.fIdx) (k:=x9) fun v2=>(kC (sh:=QD) (GB x3 v2.fFrom) fun v3=>(kIf (c:=v3.snd) (kIf (c:=v3.fst.fType.fKind !=(3:Int)) (kX (alts:=Y1 (x3,x5) ()) (.inr (10:Int)) (.next (.here _ rfl (.refl _) (.refl _))))
 (kIx (enc:=Q7) (l:=x5.fIdx) (k:=x9) fun v4=>(kN _ (mLen (sh:=eI) v3.fst.fDims) fun v5=>(kN _ (mLen (sh:=Qg) v4.fAt) fun v6=>(kIf (c:=v5 !=v6) (kX (alts:=Y1 (x3,x5) ()) (.inr (11:Int)) (.next (.here _ rfl (.refl _) (.refl _))))
 (kM0 (alts:=Y1 (x3,x5) ()) (Q6g (wr (x9+(1:Int))))))))))
 (kX (alts:=Y1 (x3,x5) ()) (.inr (9:Int)) (.next (.here _ rfl (.refl _) (.refl _)))))))))
 (kX (alts:=Y1 (x3,x5) ()) (.inl ()) (.here _ rfl (.refl _) (.refl _))))) h)) x9 o h
def JG(s:(Qd×Q1))(u:Unit)(o:Bool):List Alt:=jb o (fun b=>[.ptr 0 0 0,.ptr 1 0 0,.bool b]) [.cells 0 (Qp (s.1)).cells,.cells 0 (Q2 (s.2)).cells]
def WK(x0:Qd)(x1:List Qt)(x2:Q1):Option Int:=
 some ()>>=fun v0=>
 (D6 [x2.fLin] x1>>=fun v2=>if v2 then
 WI x2.fIdx>>=fun v3=>
 D6 v3 x1>>=fun v4=>if v4 then
 some false
 else
 some true
 else
 some true)>>=fun v1=>if v1 then
 some (9:Int)
 else
 if x2.fOp !=(3:Int) then
 some (0:Int)
 else
 KY x0 x2.fName>>=fun v7=>
 if v7.snd then
 some (List.length v7.fst.fDims:Int)>>=fun v8=>
 some (List.length x2.fIdx:Int)>>=fun v9=>
 if v8 !=v9 then
 some (11:Int)
 else
 some ()>>=fun a9=>
 Xq x0 x2 (0:Int)>>=fun a4=>(match a4 with
 | (.inl v12)=>
 some (0:Int)
 | (.inr v13)=>
 some v13)
 else
 some (9:Int)
theorem FL(x0:Qd)(x1:List Qt)(x2:Q1)(r:Int)(h:WK x0 x1 x2=some r):PU 128 [Qp x0,G4 x1,Q2 x2] (eI r):=
 Pu2 (hs:=[(16,.cb),(21,.c GD),(23,.cb),(28,.split),(33,.c QD),(36,.split),(40,.n eI 40 none),(43,.n eI 43 none),(44,.split),(3000012,.l [] [3,5,9] [kk 3,kk 5] [6] [] (Y1 (x0,x2))),(5000001,.l [] [] [] [3,5,25] [kk 3,kk 5] (JG (x0,x2)))]) ((kJb (id:=5000001) () (fun v0 a5 v1=>(kCb (IM [x2.fLin] x1) (kC (sh:=GD) (FK x2.fIdx) fun v3=>(kCb (IM v3 x1) (kXj (alts:=JG (x0,x2)) a5 false (.next (.here () rfl (.refl _) (.refl _))))
 (kXj (alts:=JG (x0,x2)) a5 true (.here () rfl (.refl _) (.refl _)))))
 (kXj (alts:=JG (x0,x2)) a5 true (.here () rfl (.refl _) (.refl _)))))
 (fun v0=>(kEr (enc:=eI) (9:Int)))
 (fun v0=>(kIf (c:=x2.fOp !=(3:Int)) (kEr (enc:=eI) (0:Int))
 (kC (sh:=QD) (GB x0 x2.fName) fun v7=>(kIf (c:=v7.snd) (kN _ (mLen (sh:=eI) v7.fst.fDims) fun v8=>(kN _ (mLen (sh:=Q7) x2.fIdx) fun v9=>(kIf (c:=v8 !=v9) (kEr (enc:=eI) (11:Int))
 (kL2 () (hL:=(Rw x0 x2 (0:Int))) (hA:=fun a7 ab=>(kEr (enc:=eI) (0:Int)))
 (hB:=fun a7 a8=>(kEr (enc:=eI) a8))))))
 (kEr (enc:=eI) (9:Int))))))) h)
def Va(s:(Qd×Q1))(u:Unit)(o:(Q6× (List Q6)) ⊕ (Q6×Int)):List Alt:=[⟨fun(x:(Q6× (List Q6)))=>(Sum.inl x:(Q6× (List Q6)) ⊕ (Q6×Int))=o,.exit 0,fun x=>[.ptr 0 0 0,.ptr 1 0 0,.ptr 2 0 0,.undef,.sl 5 (List.map Qc x.2)],fun x=>[.cells 0 (Qp s.1).cells,.cells 0 (Q2 s.2).cells,.cells 0 (Qc x.1).cells]⟩,⟨fun(x:(Q6×Int))=>(Sum.inr x:(Q6× (List Q6)) ⊕ (Q6×Int))=o,.ret,fun x=>[.ptr 0 0 0,.ptr 1 0 0,.ptr 2 0 0,ii x.2,.undef],fun x=>[.cells 0 (Qp s.1).cells,.cells 0 (Q2 s.2).cells,.cells 0 (Qc x.1).cells]⟩]
def JB(s:(Qd×Q1))(u:(Q6× (List Q6)))(o:Bool):List Alt:=jb o (fun b=>[.ptr 0 0 0,.ptr 1 0 0,.ptr 2 0 0,.sl 5 (List.map Qc (u.2)),.bool b]) [.cells 0 (Qp (s.1)).cells,.cells 0 (Q2 (s.2)).cells,.cells 0 (Qc (u.1)).cells]
def JC(s:(Qd×Q1))(u:(Q6× (List Q6)×Int))(o:Bool):List Alt:=jb o (fun b=>[.ptr 0 0 0,.ptr 1 0 0,.ptr 2 0 0,.sl 5 (List.map Qc (u.2.1)),ii (u.2.2),.bool b]) [.cells 0 (Qp (s.1)).cells,.cells 0 (Q2 (s.2)).cells,.cells 0 (Qc (u.1)).cells]
mutual
def Vh(x0:Qd)(x1:Q1):Option (Q6×Int):=
 some ()>>=fun v0=>
 XS x0 x1 (Q6.mk (0:Int) (0:Int) (0:Int) (0:Int) (0:Int)) [] (0:Int)>>=fun v1=>(match v1 with
 | (.inl v2)=>
 some (v2.fst,v2.snd)>>=fun v3=>
 (if(↑(List.map Qc v2.snd).length:Int)==(2:Int) then
 ix v2.snd (0:Int)>>=fun v5=>
 ix v2.snd (1:Int)>>=fun v6=>
 some (List.length v2.snd:Int)>>=fun v7=>
 if !(v5.fKind==v6.fKind&& (v5.fBits==v6.fBits&& (v5.fFrac==v6.fFrac&& (v5.fRound==v6.fRound&& (v5.fOver==v6.fOver&&true))))) then
 some true
 else
 some false
 else
 some (List.length v2.snd:Int)>>=fun v8=>
 some false)>>=fun v4=>if v4 then
 some ((Q6.mk (0:Int) (0:Int) (0:Int) (0:Int) (0:Int)))>>=fun a7=>
 some (a7,(10:Int))
 else
 some (v3.fst,v3.snd,x1.fOp)>>=fun a3=>
 (if x1.fOp==(1:Int) then
 some true
 else
 if x1.fOp==(12:Int) then
 some true
 else
 some false)>>=fun a8=>if a8 then
 some (x1.fType,(0:Int))
 else
 if a3.snd.snd==(2:Int) then
 some ((Q6.mk (3:Int) (0:Int) (0:Int) (0:Int) (0:Int)))>>=fun a9=>
 some (a9,(0:Int))
 else
 if a3.snd.snd==(3:Int) then
 KY x0 x1.fName>>=fun aa=>
 some (aa.fst.fType,(0:Int))
 else
 Xw x1>>=fun ab=>if ab then
 some ((Q6.mk (0:Int) (0:Int) (0:Int) (0:Int) (0:Int)))>>=fun ac=>
 some (ac,(0:Int))
 else
 ix a3.snd.fst (0:Int)>>=fun ad=>
 some (ad,(0:Int))
 | (.inr v21)=>
 some (v21.fst,v21.snd))
 partial_fixpoint
def XS(x2:Qd)(x3:Q1)(x4:Q6)(x6:List Q6)(x7:Int):Option ((Q6× (List Q6)) ⊕ (Q6×Int)):=
 some (List.length x3.fArgs:Int)>>=fun v0=>
 if x7<v0 then
 Option.map Qb.f (ix x3.fArgs x7)>>=fun v1=>
 Vh x2 v1>>=fun v2=>
 if v2.snd !=(0:Int) then
 some ((Q6.mk (0:Int) (0:Int) (0:Int) (0:Int) (0:Int)))>>=fun v3=>
 some (.inr (v3,v2.snd))
 else
 Option.map Qb.f (ix x3.fArgs x7)>>=fun v4=>
 Xw v4>>=fun v5=>if v5 then
 XS x2 x3 x4 x6 (wr (x7+(1:Int)))
 else
 if(x6.length+(1:Nat))*(40:Nat)≤(140737488355328:Nat)∧x6.length+(1:Nat)≤(9223372036854775807:Nat) then
 some (x6++[v2.fst])>>=fun v6=>
 XS x2 x3 x4 v6 (wr (x7+(1:Int)))
 else none
 else
 some (.inl (x4,x6))
 partial_fixpoint
end
theorem AC(x0:Qd):(∀(x1:Q1) (r:(Q6×Int)),Vh x0 x1=some r→PU 129 [Qp x0,Q2 x1] (Qm r))∧(∀(x3:Q1) (x4:Q6) (x6:List Q6) (x7:Int) (o:(Q6× (List Q6)) ⊕ (Q6×Int)),XS x0 x3 x4 x6 x7=some o→LO 129 3 84 [2,3,4,6,7] [.ptr 0 0 0,.ptr 1 0 0,.ptr 2 0 0,.ow 3 0 5 (List.length x6),ii x7] [.cells 0 (Qp x0).cells,.cells 0 (Q2 x3).cells,.cells 0 (Qc x4).cells,.own 0 5 (List.map Qc x6)] [2,3,4,5,6] (Va (x0,x3) () o)):=
 Vh.mutual_partial_correctness x0 (fun x1 r=>PU 129 [Qp x0,Q2 x1] (Qm r)) (fun x3 x4 x6 x7 o=>LO 129 3 84 [2,3,4,6,7] [.ptr 0 0 0,.ptr 1 0 0,.ptr 2 0 0,.ow 3 0 5 (List.length x6),ii x7] [.cells 0 (Qp x0).cells,.cells 0 (Q2 x3).cells,.cells 0 (Qc x4).cells,.own 0 5 (List.map Qc x6)] [2,3,4,5,6] (Va (x0,x3) () o))
 (fun XS Q65 x1 r h=>
 Pu2 (hs:=[(45,.n eI 45 none),(46,.split),(49,.e Qc),(52,.e Qc),(54,.split),(56,.n Qc 56 none),(59,.split),(59,.split),(65,.split),(66,.n Qc 66 none),(68,.split),(73,.c QD),(79,.cb),(80,.n Qc 80 none),(82,.e Qc),(3000004,.l [] [2,3,4,6,7] [kk 2,kk 3,kk 4,{slot:=6,own:=5}] [2,3,4,5,6] [kk 2,kk 3,kk 4,{slot:=6,fz:=true}] (Va (x0,x1))),(5000010,.l [] [] [] [2,3,4,6,55] [kk 2,kk 3,kk 4,{slot:=6,fz:=true}] (JB (x0,x1))),(6000015,.l [] [] [] [2,3,4,6,58,59] [kk 2,kk 3,kk 4,{slot:=6,fz:=true}] (JC (x0,x1)))]) ((kL2 () (hL:=(Q65 x1 (Q6.mk (0:Int) (0:Int) (0:Int) (0:Int) (0:Int)) [] (0:Int))) (hA:=fun v0 v2=>(kJb (id:=5000010) (v2.fst,v2.snd) (fun v3 ac v4=>(kIf (c:=(↑(List.map Qc v2.snd).length:Int)==(2:Int)) (kIx (enc:=Qc) (l:=v2.snd) (k:=(0:Int)) fun v5=>(kIx (enc:=Qc) (l:=v2.snd) (k:=(1:Int)) fun v6=>(kN _ (mLen (sh:=Qc) v2.snd) fun v7=>(kIf (c:= !(v5.fKind==v6.fKind&& (v5.fBits==v6.fBits&& (v5.fFrac==v6.fFrac&& (v5.fRound==v6.fRound&& (v5.fOver==v6.fOver&&true)))))) (kXj (alts:=JB (x0,x1)) ac true (.here () rfl (.refl _) (.refl _)))
 (kXj (alts:=JB (x0,x1)) ac false (.next (.here () rfl (.refl _) (.refl _))))))))
 (kN _ (mLen (sh:=Qc) v2.snd) fun v8=>(kXj (alts:=JB (x0,x1)) ac false (.next (.here () rfl (.refl _) (.refl _)))))))
 (fun v3=>(kW (sh:=Qc) (Q6.mk (0:Int) (0:Int) (0:Int) (0:Int) (0:Int)) lr fun ai=>(kEr (enc:=Qm) (ai,(10:Int)))))
 (fun v3=>(kJb (id:=6000015) (v3.fst,v3.snd,x1.fOp) (fun a9 a8 ar=>(kIf (c:=x1.fOp==(1:Int)) (kXj (alts:=JC (x0,x1)) a8 true (.here () rfl (.refl _) (.refl _)))
 (kIf (c:=x1.fOp==(12:Int)) (kXj (alts:=JC (x0,x1)) a8 true (.here () rfl (.refl _) (.refl _)))
 (kXj (alts:=JC (x0,x1)) a8 false (.next (.here () rfl (.refl _) (.refl _)))))))
 (fun a9=>(kEr (enc:=Qm) (x1.fType,(0:Int))))
 (fun a9=>(kIf (c:=a9.snd.snd==(2:Int)) (kW (sh:=Qc) (Q6.mk (3:Int) (0:Int) (0:Int) (0:Int) (0:Int)) lr fun aj=>(kEr (enc:=Qm) (aj,(0:Int))))
 (kIf (c:=a9.snd.snd==(3:Int)) (kC (sh:=QD) (GB x0 x1.fName) fun ak=>(kEr (enc:=Qm) (ak.fst.fType,(0:Int))))
 (kCb (VG x1) (kW (sh:=Qc) (Q6.mk (0:Int) (0:Int) (0:Int) (0:Int) (0:Int)) lr fun am=>(kEr (enc:=Qm) (am,(0:Int))))
 (kIx (enc:=Qc) (l:=a9.snd.fst) (k:=(0:Int)) fun ao=>(kEr (enc:=Qm) (ao,(0:Int))))))))))))
 (hB:=fun v0 af=>(kEr (enc:=Qm) (af.fst,af.snd)))) h))
 (fun Vh XS Q64 Q65 x3 x4 x6 x7 o h=>
 Lp2 (hs:=[(15,.n eI 15 none),(16,.split),(24,.e Q2),(26,.c Qm),(30,.split),(31,.n Qc 31 none),(36,.e Q2),(38,.cb),(43,.z [{slot:=40,own:=5}] (some (.n Qc 43 (some .a))))]) (kb:=[kk 2,kk 3,kk 4,{slot:=6,own:=5}]) (kbx:=[kk 2,kk 3,kk 4,{slot:=6,fz:=true}]) ((kN _ (mLen (sh:=Qr) x3.fArgs) fun v0=>(kIfD (p:=x7<v0) (kIxR (l:=x3.fArgs) (k:=x7) Yt fun v1=>(kC (sh:=Qm) (Q64 v1) fun v2=>(kIf (c:=v2.snd !=(0:Int)) (kW (sh:=Qc) (Q6.mk (0:Int) (0:Int) (0:Int) (0:Int) (0:Int)) lr fun v3=>(kT (nM (sh:=Qc) x6) (kX (alts:=Va (x0,x3) ()) (.inr (v3,v2.snd)) (.next (.here _ rfl (.cons (LeV.refl (AV.ptr (0:Nat) (0:Nat) (0:Nat))) (.cons (LeV.refl (AV.ptr (1:Nat) (0:Nat) (0:Nat))) (.cons (LeV.refl (AV.ptr (2:Nat) (0:Nat) (0:Nat))) (.cons (LeV.refl (ii v2.snd)) (.cons (LeV.undef (AV.sl (5:Nat) (List.map Qc x6))) .nil))))) (.refl _))))))
 (kIxR (l:=x3.fArgs) (k:=x7) Yt fun v4=>(kCb (VG v4) (kM0 (alts:=Va (x0,x3) ()) (Q65 x3 x4 x6 (wr (x7+(1:Int)))))
 (kA (q:=(x6.length+(1:Nat))*(40:Nat)≤(140737488355328:Nat)∧x6.length+(1:Nat)≤(9223372036854775807:Nat)) (sh:=Qc) (l:=x6) (kO (sh:=Qc) (x6++[v2.fst]) (mA (sh:=Qc) x6 v2.fst) (nA x6 v2.fst) fun v6=>(kM0 (alts:=Va (x0,x3) ()) (Q65 x3 x4 v6 (wr (x7+(1:Int))))))))))))
 (kT (nM (sh:=Qc) x6) (kX (alts:=Va (x0,x3) ()) (.inl (x4,x6)) (.here _ rfl (.refl _) (.refl _)))))) h))
theorem FH(x0:Qd)(x1:Q1)(r:(Q6×Int))(h:Vh x0 x1=some r):PU 129 [Qp x0,Q2 x1] (Qm r):=(AC x0).1 x1 r h
def KX(s:((List Qt)×Qd×Q1))(u:List Qb)(o:Q6 ⊕ (Q6×Int)):List Alt:=[⟨fun(x:Q6)=>(Sum.inl x:Q6 ⊕ (Q6×Int))=o,.exit 0,fun x=>[.ptr 0 0 0,.ptr 1 0 0,.ptr 2 0 0,.undef],fun x=>[.cells 0 (Qp s.2.1).cells,.cells 0 (Q2 s.2.2).cells,.cells 0 (Qc x).cells]⟩,⟨fun(x:(Q6×Int))=>(Sum.inr x:Q6 ⊕ (Q6×Int))=o,.ret,fun x=>[.ptr 0 0 0,.ptr 1 0 0,.ptr 2 0 0,ii x.2],fun x=>[.cells 0 (Qp s.2.1).cells,.cells 0 (Q2 s.2.2).cells,.cells 0 (Qc x.1).cells]⟩]
def Xc(x1:List Qt)(x3:Qd)(x6:Q6)(x9:List Qb)(a3:Int):Option (Q6 ⊕ (Q6×Int)):=
 some (List.length x9:Int)>>=fun v0=>
 if a3<v0 then
 Option.map Qb.f (ix x9 a3)>>=fun v1=>
 WK x3 x1 v1>>=fun v2=>
 if v2 !=(0:Int) then
 some ((Q6.mk (0:Int) (0:Int) (0:Int) (0:Int) (0:Int)))>>=fun v3=>
 some (.inr (v3,v2))
 else
 Xc x1 x3 x6 x9 (wr (a3+(1:Int)))
 else
 some (.inl x6)
 partial_fixpoint
theorem Hn(x1:List Qt)(x3:Qd)(x5:Q1)(x6:Q6)(x9:List Qb)(a3:Int)(o:Q6 ⊕ (Q6×Int))(h:Xc x1 x3 x6 x9 a3=some o):LO 105 6 42 [1,3,5,6,9,10] [.sl 2 (List.map Qs x1),.ptr 0 0 0,.ptr 1 0 0,.ptr 2 0 0,.sl 13 (List.map Qr x9),ii a3] [.cells 0 (Qp x3).cells,.cells 0 (Q2 x5).cells,.cells 0 (Qc x6).cells] [3,5,6,7] (KX (x1,x3,x5) x9 o):=
 Xc.partial_correctness x1 x3 x6 x9 (fun a3 o=>∀(x5:Q1),LO 105 6 42 [1,3,5,6,9,10] [.sl 2 (List.map Qs x1),.ptr 0 0 0,.ptr 1 0 0,.ptr 2 0 0,.sl 13 (List.map Qr x9),ii a3] [.cells 0 (Qp x3).cells,.cells 0 (Q2 x5).cells,.cells 0 (Qc x6).cells] [3,5,6,7] (KX (x1,x3,x5) x9 o))
 (fun Xc Q63 a3 o h x5=>
 Lp2 (hs:=[(22,.n eI 22 none),(23,.split),(30,.e Q2),(32,.c eI),(34,.split),(35,.n Qc 35 none)]) (kb:=[kk 3,kk 5,kk 6]) (kbx:=[kk 3,kk 5,kk 6]) ((kN _ (mLen (sh:=Qr) x9) fun v0=>(kIfD (p:=a3<v0) (kIxR (l:=x9) (k:=a3) Yt fun v1=>(kC (sh:=eI) (FL x3 x1 v1) fun v2=>(kIf (c:=v2 !=(0:Int)) (kW (sh:=Qc) (Q6.mk (0:Int) (0:Int) (0:Int) (0:Int) (0:Int)) lr fun v3=>(kX (alts:=KX (x1,x3,x5) x9) (.inr (v3,v2)) (.next (.here _ rfl (.refl _) (.refl _)))))
 (kM0 (alts:=KX (x1,x3,x5) x9) (fun y hy=>Q63 (wr (a3+(1:Int))) y hy x5)))))
 (kX (alts:=KX (x1,x3,x5) x9) (.inl x6) (.here _ rfl (.refl _) (.refl _))))) h)) a3 o h x5
def JN(x0:Qd)(x1:List Qt)(x2:Q1):Option (Q6×Int):=
 GQ x2>>=fun v0=>
 if v0 !=(0:Int) then
 some ((Q6.mk (0:Int) (0:Int) (0:Int) (0:Int) (0:Int)))>>=fun v1=>
 some (v1,v0)
 else
 Uh x2>>=fun v2=>
 some v2>>=fun v3=>
 Xc x1 x0 (Q6.mk (0:Int) (0:Int) (0:Int) (0:Int) (0:Int)) v2 (0:Int)>>=fun v4=>(match v4 with
 | (.inl v5)=>
 Vh x0 x2>>=fun v6=>
 some (v6.fst,v6.snd)
 | (.inr v7)=>
 some (v7.fst,v7.snd))
theorem WO(x0:Qd)(x1:List Qt)(x2:Q1)(r:(Q6×Int))(h:JN x0 x1 x2=some r):PU 105 [Qp x0,G4 x1,Q2 x2] (Qm r):=
 Pu2 (hs:=[(13,.c eI),(15,.split),(16,.n Qc 16 none),(19,.c YO),(39,.c Qm),(3000007,.l [] [1,3,5,6,9,10] [kk 3,kk 5,kk 6] [3,5,6,7] [kk 3,kk 5,kk 6] (KX (x1,x0,x2)))]) ((kC (sh:=eI) (Ro x2) fun v0=>(kIf (c:=v0 !=(0:Int)) (kW (sh:=Qc) (Q6.mk (0:Int) (0:Int) (0:Int) (0:Int) (0:Int)) lr fun v1=>(kEr (enc:=Qm) (v1,v0)))
 (kC (sh:=YO) (Ow x2) fun v2=>(kL2 v2 (hL:=(Hn x1 x0 x2 (Q6.mk (0:Int) (0:Int) (0:Int) (0:Int) (0:Int)) v2 (0:Int))) (hA:=fun v3 v5=>(kC (sh:=Qm) (FH x0 x2) fun v6=>(kEr (enc:=Qm) (v6.fst,v6.snd))))
 (hB:=fun v3 v7=>(kEr (enc:=Qm) (v7.fst,v7.snd))))))) h)
def Ym(s:((List Qt)×Qd×Qw))(u:Q9)(o:Bool):List Alt:=jb o (fun b=>[.sl 2 (List.map Qs (s.1)),.ptr 0 0 0,.ptr 1 0 0,.ptr 2 0 0,.bool b]) [.cells 0 (Qp (s.2.1)).cells,.cells 0 (Qx (s.2.2)).cells,.cells 0 (Q5 u).cells]
def Ky(s:Unit)(u:Int)(o:Bool):List Alt:=jb o (fun b=>[ii u,.bool b]) []
def CZ(x0:Qd)(x1:List Qt)(x2:Qw):Option Int:=
 some ((KG.mk (3:Int) x2.fName (gVal.mk (0:Int) (0:Int)) (Q6.mk (0:Int) (0:Int) (0:Int) (0:Int) (0:Int)) (gLin.mk (0:Int) []) x2.fIdx []:Q1))>>=fun v0=>
 JN x0 x1 v0>>=fun v1=>
 if v1.snd !=(0:Int) then
 some v1.snd
 else
 KY x0 x2.fName>>=fun v2=>
 some v2.fst>>=fun v3=>
 (if v2.fst.fUse==(1:Int) then
 some true
 else
 if x2.fOp==(3:Int) then
 if x2.fFold< (1:Int) then
 some true
 else
 if(4:Int)<x2.fFold then
 some true
 else
 some false
 else
 some false)>>=fun v4=>if v4 then
 some (1:Int)
 else
 JN x0 x1 x2.fExpr>>=fun v7=>
 some v7.snd>>=fun v8=>
 (if v7.snd==(0:Int) then
 Xw x2.fExpr>>=fun a6=>if a6 then
 some true
 else
 if !(v7.fst.fKind==v3.fType.fKind&& (v7.fst.fBits==v3.fType.fBits&& (v7.fst.fFrac==v3.fType.fFrac&& (v7.fst.fRound==v3.fType.fRound&& (v7.fst.fOver==v3.fType.fOver&&true))))) then
 some true
 else
 some false
 else
 some false)>>=fun v9=>if v9 then
 some (10:Int)
 else
 some v8
theorem AZ(x0:Qd)(x1:List Qt)(x2:Qw)(r:Int)(h:CZ x0 x1 x2=some r):PU 107 [Qp x0,G4 x1,Qx x2] (eI r):=
 Pu2 (hs:=[(20,.n Q2 20 none),(21,.c Qm),(25,.split),(31,.c QD),(36,.split),(40,.split),(44,.split),(48,.split),(57,.c Qm),(61,.split),(65,.cb),(70,.split),(5000005,.l [] [] [] [1,3,5,9,51] [kk 3,kk 5,kk 9] (Ym (x1,x0,x2))),(5000008,.l [] [] [] [12,72] [] (Ky ()))]) ((kW (sh:=Q2) (KG.mk (3:Int) x2.fName (gVal.mk (0:Int) (0:Int)) (Q6.mk (0:Int) (0:Int) (0:Int) (0:Int) (0:Int)) (gLin.mk (0:Int) []) x2.fIdx []:Q1) (LeV.agg (.cons (LeV.refl (ii (3:Int))) (.cons (LeV.refl (AV.str x2.fName)) (.cons (LeV.refl (ii (0:Int))) (.cons (LeV.refl (ii (0:Int))) (.cons (LeV.refl (ii (0:Int))) (.cons (LeV.refl (ii (0:Int))) (.cons (LeV.refl (ii (0:Int))) (.cons (LeV.refl (ii (0:Int))) (.cons (LeV.refl (ii (0:Int))) (.cons (LeV.refl (ii (0:Int))) (.cons (LeV.nil 2) (.cons (LeV.refl (AV.sl (4:Nat) (List.map Q7 x2.fIdx))) (.cons (LeV.nil 13) .nil)))))))))))))) fun v0=>(kC (sh:=Qm) (WO x0 x1 v0) fun v1=>(kIf (c:=v1.snd !=(0:Int)) (kEr (enc:=eI) v1.snd)
 (kC (sh:=QD) (GB x0 x2.fName) fun v2=>(kJb (id:=5000005) v2.fst (fun v3 a4 v4=>(kIf (c:=v2.fst.fUse==(1:Int)) (kXj (alts:=Ym (x1,x0,x2)) a4 true (.here () rfl (.refl _) (.refl _)))
 (kIf (c:=x2.fOp==(3:Int)) (kIfD (p:=x2.fFold< (1:Int)) (kXj (alts:=Ym (x1,x0,x2)) a4 true (.here () rfl (.refl _) (.refl _)))
 (kIfD (p:=(4:Int)<x2.fFold) (kXj (alts:=Ym (x1,x0,x2)) a4 true (.here () rfl (.refl _) (.refl _)))
 (kXj (alts:=Ym (x1,x0,x2)) a4 false (.next (.here () rfl (.refl _) (.refl _))))))
 (kXj (alts:=Ym (x1,x0,x2)) a4 false (.next (.here () rfl (.refl _) (.refl _)))))))
 (fun v3=>(kEr (enc:=eI) (1:Int)))
 (fun v3=>(kC (sh:=Qm) (WO x0 x1 x2.fExpr) fun v7=>(kJb (id:=5000008) v7.snd (fun v8 a7 v9=>(kIf (c:=v7.snd==(0:Int)) (kCb (VG x2.fExpr) (kXj (alts:=Ky ()) a7 true (.here () rfl (.refl _) (.refl _)))
 (kIf (c:= !(v7.fst.fKind==v3.fType.fKind&& (v7.fst.fBits==v3.fType.fBits&& (v7.fst.fFrac==v3.fType.fFrac&& (v7.fst.fRound==v3.fType.fRound&& (v7.fst.fOver==v3.fType.fOver&&true)))))) (kXj (alts:=Ky ()) a7 true (.here () rfl (.refl _) (.refl _)))
 (kXj (alts:=Ky ()) a7 false (.next (.here () rfl (.refl _) (.refl _))))))
 (kXj (alts:=Ky ()) a7 false (.next (.here () rfl (.refl _) (.refl _))))))
 (fun v8=>(kEr (enc:=eI) (10:Int)))
 (fun v8=>(kEr (enc:=eI) v8)))))))))) h)
def U8(s:Qw)(u:Unit)(o:Bool):List Alt:=jb o (fun b=>[.ptr 0 0 0,.bool b]) [.cells 0 (Qx s).cells]
def K1(s:Unit)(u:Unit)(o:Bool):List Alt:=jb o (fun b=>[.bool b]) []
def U9(s:Unit)(u:Int)(o:Bool):List Alt:=jb o (fun b=>[ii u,.bool b]) []
def Nv(x0:Qd)(x1:List Qt)(x2:List Str)(x3:Qw):Option Int:=
 CY x3>>=fun v0=>if v0 then
 if x3.fOp==(1:Int) then
 KY x0 x3.fName>>=fun v1=>
 Uf x3.fName>>=fun v2=>if v2 then
 some ()>>=fun v3=>
 (if v1.snd then
 some true
 else
 GJ x2 x3.fName>>=fun v5=>if v5 then
 some true
 else
 some false)>>=fun v4=>if v4 then
 some (8:Int)
 else
 some ()>>=fun v8=>
 (if x3.fMany< (1:Int) then
 some true
 else
 if(65536:Int)<x3.fMany then
 some true
 else
 if x3.fMark< (0:Int) then
 some true
 else
 if(3:Int)<x3.fMark then
 some true
 else
 some false)>>=fun v9=>if v9 then
 some (1:Int)
 else
 some (0:Int)
 else
 some (7:Int)
 else
 if x3.fOp==(4:Int) then
 JN x0 x1 x3.fExpr>>=fun a4=>
 some a4.snd>>=fun a5=>
 (if a4.snd==(0:Int) then
 Xw x3.fExpr>>=fun a7=>if a7 then
 some false
 else
 some true
 else
 some false)>>=fun a6=>if a6 then
 some (10:Int)
 else
 some a5
 else
 CZ x0 x1 x3>>=fun a8=>
 some a8
 else
 some (5:Int)
theorem Ox(x0:Qd)(x1:List Qt)(x2:List Str)(x3:Qw)(r:Int)(h:Nv x0 x1 x2 x3=some r):PU 78 [Qp x0,G4 x1,eLS x2,Qx x3] (eI r):=
 Pu2 (hs:=[(14,.cb),(19,.split),(24,.c QD),(30,.cb),(33,.split),(38,.cb),(43,.split),(47,.split),(52,.split),(57,.split),(60,.split),(66,.c Qm),(70,.split),(74,.cb),(81,.c eI),(5000008,.l [] [] [] [7,32] [kk 7] (U8 x3)),(5000010,.l [] [] [] [40] [] (K1 ())),(5000015,.l [] [] [] [12,76] [] (U9 ()))]) ((kCb (AY x3) (kIf (c:=x3.fOp==(1:Int)) (kC (sh:=QD) (GB x0 x3.fName) fun v1=>(kCb (CA x3.fName) (kJb (id:=5000008) () (fun v3 a6 v4=>(kIf (c:=v1.snd) (kXj (alts:=U8 x3) a6 true (.here () rfl (.refl _) (.refl _)))
 (kCb (T2 x2 x3.fName) (kXj (alts:=U8 x3) a6 true (.here () rfl (.refl _) (.refl _)))
 (kXj (alts:=U8 x3) a6 false (.next (.here () rfl (.refl _) (.refl _)))))))
 (fun v3=>(kEr (enc:=eI) (8:Int)))
 (fun v3=>(kJb (id:=5000010) () (fun v8 a5 v9=>(kIfD (p:=x3.fMany< (1:Int)) (kXj (alts:=K1 ()) a5 true (.here () rfl (.refl _) (.refl _)))
 (kIfD (p:=(65536:Int)<x3.fMany) (kXj (alts:=K1 ()) a5 true (.here () rfl (.refl _) (.refl _)))
 (kIfD (p:=x3.fMark< (0:Int)) (kXj (alts:=K1 ()) a5 true (.here () rfl (.refl _) (.refl _)))
 (kIfD (p:=(3:Int)<x3.fMark) (kXj (alts:=K1 ()) a5 true (.here () rfl (.refl _) (.refl _)))
 (kXj (alts:=K1 ()) a5 false (.next (.here () rfl (.refl _) (.refl _)))))))))
 (fun v8=>(kEr (enc:=eI) (1:Int)))
 (fun v8=>(kEr (enc:=eI) (0:Int))))))
 (kEr (enc:=eI) (7:Int))))
 (kIf (c:=x3.fOp==(4:Int)) (kC (sh:=Qm) (WO x0 x1 x3.fExpr) fun a8=>(kJb (id:=5000015) a8.snd (fun a7 a4 ag=>(kIf (c:=a8.snd==(0:Int)) (kCb (VG x3.fExpr) (kXj (alts:=U9 ()) a4 false (.next (.here () rfl (.refl _) (.refl _))))
 (kXj (alts:=U9 ()) a4 true (.here () rfl (.refl _) (.refl _))))
 (kXj (alts:=U9 ()) a4 false (.next (.here () rfl (.refl _) (.refl _))))))
 (fun a7=>(kEr (enc:=eI) (10:Int)))
 (fun a7=>(kEr (enc:=eI) a7))))
 (kC (sh:=eI) (AZ x0 x1 x3) fun ab=>(kEr (enc:=eI) ab))))
 (kEr (enc:=eI) (5:Int))) h)
def Vb(s:((List Qt)× (List Qe)× (List Int)×Qd))(u:Unit)(o:((List Str)×QG) ⊕ QG):List Alt:=[⟨fun(x:((List Str)×QG))=>(Sum.inl x:((List Str)×QG) ⊕ QG)=o,.exit 0,fun x=>[.sl 1 (List.map eS x.1),.ptr 0 0 0],fun x=>[.cells 0 (Zf x.2).cells]⟩,⟨fun(x:QG)=>(Sum.inr x:((List Str)×QG) ⊕ QG)=o,.ret,fun x=>[.undef,.ptr 0 0 0],fun x=>[.cells 0 (Zf x).cells]⟩]
def Gw(s:((List Qt)× (List Qe)× (List Int)×Qd))(u:(QG×Int× (List Int)))(o:((List Str)× (List Qt))):List Alt:=[⟨fun(x:((List Str)× (List Qt)))=>x=o,.normal,fun x=>[.sl 2 (List.map Qs (s.1)),.sl 1 (List.map eS (x.1)),.sl 20 (List.map Qh (s.2.1)),.sl 1 (List.map eI (s.2.2.1)),.ptr 0 0 0,.ptr 1 0 0,ii (u.2.1),.sl 1 (List.map eI (u.2.2)),.sl 2 (List.map Qs (x.2))],fun x=>[.cells 0 (Qp (s.2.2.2)).cells,.cells 0 (Zf (u.1)).cells]⟩]
mutual
def Vi(x0:Qd)(x1:List Qt)(x2:List Str)(x3:List Qe)(x4:List Int):Option QG:=
 some ()>>=fun v0=>
 YD x1 x2 x3 x4 x0 (QG.mk [] [] (0:Int)) (0:Int)>>=fun v1=>(match v1 with
 | (.inl v2)=>
 some ((QG.mk v2.fst [] (0:Int)))>>=fun v3=>
 some v3
 | (.inr v4)=>
 some v4)
 partial_fixpoint
def YD(x1:List Qt)(x2:List Str)(x3:List Qe)(x4:List Int)(x5:Qd)(ab:QG)(a3:Int):Option (((List Str)×QG) ⊕ QG):=
 some (List.length x3:Int)>>=fun v0=>
 if a3<v0 then
 if(0:Nat)=(0:Nat)∧((0:Nat)+(List.map eI x4).length)*(8:Nat)≤(140737488355328:Nat)∧(0:Nat)+(List.map eI x4).length≤(9223372036854775807:Nat) then
 some ([]++x4)>>=fun v1=>
 if(v1.length+(1:Nat))*(8:Nat)≤(140737488355328:Nat)∧v1.length+(1:Nat)≤(9223372036854775807:Nat) then
 some (v1++[a3])>>=fun v2=>
 Option.map Qe.f (ix x3 a3)>>=fun v3=>
 Nv x5 x1 x2 v3>>=fun v4=>
 if v4 !=(0:Int) then
 some ((QG.mk [] v2 v4))>>=fun v5=>
 some (.inr v5)
 else
 some (ab,a3,v2)>>=fun v6=>
 (Option.map Qe.f (ix x3 a3)>>=fun v8=>
 if v8.fOp==(1:Int) then
 if(0:Nat)=(0:Nat)∧((0:Nat)+(List.map eS x2).length)*(16:Nat)≤(140737488355328:Nat)∧(0:Nat)+(List.map eS x2).length≤(9223372036854775807:Nat) then
 Option.map Qe.f (ix x3 a3)>>=fun v9=>
 if(0:Nat)+(List.map eS x2).length=([]++List.map eS x2).length∧((0:Nat)+(List.map eS x2).length+(1:Nat))*(16:Nat)≤(140737488355328:Nat)∧(0:Nat)+(List.map eS x2).length+(1:Nat)≤(9223372036854775807:Nat) then
 some (([]++x2)++[v9.fName])>>=fun af=>
 if(0:Nat)=(0:Nat)∧((0:Nat)+(List.map Qs x1).length)*(24:Nat)≤(140737488355328:Nat)∧(0:Nat)+(List.map Qs x1).length≤(9223372036854775807:Nat) then
 Option.map Qe.f (ix x3 a3)>>=fun a8=>
 Option.map Qe.f (ix x3 a3)>>=fun a9=>
 some ((Qt.mk a8.fName a9.fMany))>>=fun ao=>
 if(0:Nat)+(List.map Qs x1).length=([]++List.map Qs x1).length∧((0:Nat)+(List.map Qs x1).length+(1:Nat))*(24:Nat)≤(140737488355328:Nat)∧(0:Nat)+(List.map Qs x1).length+(1:Nat)≤(9223372036854775807:Nat) then
 some (([]++x1)++[(Qt.mk a8.fName a9.fMany)])>>=fun ag=>
 some (af,ag)
 else none
 else none
 else none
 else none
 else
 some (x2,x1))>>=fun aa=>
 Option.map Qe.f (ix x3 v6.snd.fst)>>=fun ah=>
 Vi x5 aa.snd aa.fst ah.fBody v6.snd.snd>>=fun a7=>
 if a7.fE !=(0:Int) then
 some (.inr a7)
 else
 YD x1 a7.fUsed x3 x4 x5 v6.fst (wr (v6.snd.fst+(1:Int)))
 else none
 else none
 else
 some (.inl (x2,ab))
 partial_fixpoint
end
theorem AD(x0:Qd):(∀(x1:List Qt) (x2:List Str) (x3:List Qe) (x4:List Int) (r:QG),Vi x0 x1 x2 x3 x4=some r→PU 56 [Qp x0,G4 x1,eLS x2,X8 x3,eLI x4] (Zf r))∧(∀(x1:List Qt) (x2:List Str) (x3:List Qe) (x4:List Int) (a9:QG) (a4:Int) (o:((List Str)×QG) ⊕ QG),YD x1 x2 x3 x4 x0 a9 a4=some o→LO 56 2 92 [1,2,3,4,5,10,11] [.sl 2 (List.map Qs x1),.sl 1 (List.map eS x2),.sl 20 (List.map Qh x3),.sl 1 (List.map eI x4),.ptr 0 0 0,.ptr 1 0 0,ii a4] [.cells 0 (Qp x0).cells,.cells 0 (Zf a9).cells] [2,10] (Vb (x1,x3,x4,x0) () o)):=
 Vi.mutual_partial_correctness x0 (fun x1 x2 x3 x4 r=>PU 56 [Qp x0,G4 x1,eLS x2,X8 x3,eLI x4] (Zf r)) (fun x1 x2 x3 x4 a9 a4 o=>LO 56 2 92 [1,2,3,4,5,10,11] [.sl 2 (List.map Qs x1),.sl 1 (List.map eS x2),.sl 20 (List.map Qh x3),.sl 1 (List.map eI x4),.ptr 0 0 0,.ptr 1 0 0,ii a4] [.cells 0 (Qp x0).cells,.cells 0 (Zf a9).cells] [2,10] (Vb (x1,x3,x4,x0) () o))
 (fun YD Q67 x1 x2 x3 x4 r h=>
 Pu2 (hs:=[(91,.n Zf 91 none),(3000003,.l [] [1,2,3,4,5,10,11] [{slot:=2,fz:=true},kk 5,kk 10] [2,10] [{slot:=2,fz:=true},kk 10] (Vb (x1,x3,x4,x0)))]) ((kL2 () (hL:=(fun y hy=>Yg.le (.cons (LeV.refl (AV.sl (2:Nat) (List.map Qs x1))) (.cons (LeV.refl (AV.sl (1:Nat) (List.map eS x2))) (.cons (LeV.refl (AV.sl (20:Nat) (List.map Qh x3))) (.cons (LeV.refl (AV.sl (1:Nat) (List.map eI x4))) (.cons (LeV.refl (AV.ptr (0:Nat) (0:Nat) (0:Nat))) (.cons (LeV.refl (AV.ptr (1:Nat) (0:Nat) (0:Nat))) (.cons (LeV.refl (ii (0:Int))) .nil))))))) (.cons (LeB.refl (Box.cells (0:Nat) [AV.sl (8:Nat) (List.map Q5 x0.fBufs),AV.sl (20:Nat) (List.map Qh x0.fBody)])) (.cons (LeB.cells (0:Nat) (.cons (LeV.nil 1) (.cons (LeV.nil 1) (.cons (LeV.refl (ii (0:Int))) .nil)))) .nil)) (Q67 x1 x2 x3 x4 (QG.mk [] [] (0:Int)) (0:Int) y hy))) (hA:=fun v0 v2=>(kW (sh:=Zf) (QG.mk v2.fst [] (0:Int)) (LeV.agg (.cons (LeV.refl (AV.sl (1:Nat) (List.map eS v2.fst))) (.cons (LeV.nil 1) (.cons (LeV.refl (ii (0:Int))) .nil)))) fun v3=>(kEr (enc:=Zf) v3)))
 (hB:=fun v0 v4=>(kEr (enc:=Zf) v4))) h))
 (fun Vi YD Q66 Q67 x1 x2 x3 x4 a9 a4 o h=>
 Lp2 (hs:=[(18,.n eI 18 none),(19,.split),(24,.z [{slot:=22,own:=1}] (some (.n eI 24 (some .a)))),(27,.z [{slot:=24,own:=1}] (some (.n eI 27 (some .a)))),(12,.z [{slot:=27,fz:=true}] none),(33,.e Qx),(35,.c eI),(37,.split),(40,.n Zf 40 none),(44,.e Qx),(47,.split),(50,.a),(53,.e Qx),(57,.z [{slot:=50,own:=1}] (some (.n eS 57 (some .a)))),(2,.z [{slot:=57,fz:=true}] none),(60,.a),(63,.e Qx),(68,.e Qx),(71,.n Qs 71 none),(73,.z [{slot:=60,own:=2}] (some (.n Qs 73 (some .a)))),(14,.z [{slot:=73,fz:=true}] none),(79,.e Qx),(83,.c Zf),(86,.split),(6000011,.l [] [] [] [1,2,3,4,5,10,11,12,14] [{slot:=2,fz:=true},kk 5,kk 10,{slot:=12,fz:=true},{slot:=14,fz:=true}] (Gw (x1,x3,x4,x0)))]) (kb:=[{slot:=2,fz:=true},kk 5,kk 10]) (kbx:=[{slot:=2,fz:=true},kk 10]) ((kN _ (mLen (sh:=Qh) x3) fun v0=>(kIfD (p:=a4<v0) (kG (p:=(0:Nat)=(0:Nat)∧((0:Nat)+(List.map eI x4).length)*(8:Nat)≤(140737488355328:Nat)∧(0:Nat)+(List.map eI x4).length≤(9223372036854775807:Nat)) (kO (sh:=eI) ([]++x4) (mAA (sh:=eI) [] x4) (nAA (sh:=eI) [] x4) fun v1=>(kA (q:=(v1.length+(1:Nat))*(8:Nat)≤(140737488355328:Nat)∧v1.length+(1:Nat)≤(9223372036854775807:Nat)) (sh:=eI) (l:=v1) (kO (sh:=eI) (v1++[a4]) (mA (sh:=eI) v1 a4) (nA v1 a4) fun v2=>(kT (nM (sh:=eI) v2) (kIxR (l:=x3) (k:=a4) Yu fun v3=>(kC (sh:=eI) (Ox x0 x1 x2 v3) fun v4=>(kIf (c:=v4 !=(0:Int)) (kW (sh:=Zf) (QG.mk [] v2 v4) (LeV.agg (.cons (LeV.nil 1) (.cons (LeV.refl (AV.sl (1:Nat) (List.map eI v2))) (.cons (LeV.refl (ii v4)) .nil)))) fun v5=>(kX (alts:=Vb (x1,x3,x4,x0) ()) (.inr v5) (.next (.here _ rfl (.cons (LeV.undef (AV.sl (1:Nat) (List.map eS x2))) (.cons (LeV.refl (AV.ptr (0:Nat) (0:Nat) (0:Nat))) .nil)) (.refl _)))))
 (kJ1 (id:=6000011) (a9,a4,v2) (fun v6 ag v7=>(kIxR (l:=x3) (k:=a4) Yu fun v8=>(kIf (c:=v8.fOp==(1:Int)) (kG (p:=(0:Nat)=(0:Nat)∧((0:Nat)+(List.map eS x2).length)*(16:Nat)≤(140737488355328:Nat)∧(0:Nat)+(List.map eS x2).length≤(9223372036854775807:Nat)) (kIxR (l:=x3) (k:=a4) Yu fun v9=>(kG (p:=(0:Nat)+(List.map eS x2).length=([]++List.map eS x2).length∧((0:Nat)+(List.map eS x2).length+(1:Nat))*(16:Nat)≤(140737488355328:Nat)∧(0:Nat)+(List.map eS x2).length+(1:Nat)≤(9223372036854775807:Nat)) (kO (sh:=eS) (([]++x2)++[v9.fName]) (mAp (sh:=eS) (mAA (sh:=eS) [] x2) (rfl:List.map eS [v9.fName]=List.map eS [v9.fName])) (by simp:List.length (([]++x2)++[v9.fName])=(0:Nat)+(List.map eS x2).length+(1:Nat)) fun ah=>(kT (nM (sh:=eS) ah) (kG (p:=(0:Nat)=(0:Nat)∧((0:Nat)+(List.map Qs x1).length)*(24:Nat)≤(140737488355328:Nat)∧(0:Nat)+(List.map Qs x1).length≤(9223372036854775807:Nat)) (kIxR (l:=x3) (k:=a4) Yu fun aa=>(kIxR (l:=x3) (k:=a4) Yu fun ab=>(kW (sh:=Qs) (Qt.mk aa.fName ab.fMany) lr fun au=>(kG (p:=(0:Nat)+(List.map Qs x1).length=([]++List.map Qs x1).length∧((0:Nat)+(List.map Qs x1).length+(1:Nat))*(24:Nat)≤(140737488355328:Nat)∧(0:Nat)+(List.map Qs x1).length+(1:Nat)≤(9223372036854775807:Nat)) (kO (sh:=Qs) (([]++x1)++[(Qt.mk aa.fName ab.fMany)]) (mAp (sh:=Qs) (mAA (sh:=Qs) [] x1) (rfl:List.map Qs [(Qt.mk aa.fName ab.fMany)]=List.map Qs [(Qt.mk aa.fName ab.fMany)])) (by simp:List.length (([]++x1)++[(Qt.mk aa.fName ab.fMany)])=(0:Nat)+(List.map Qs x1).length+(1:Nat)) fun ai=>(kT (nM (sh:=Qs) ai) (kXj (alts:=Gw (x1,x3,x4,x0)) ag (ah,ai) (.here _ rfl (.refl _) (.refl _)))))))))))))))
 (kXj (alts:=Gw (x1,x3,x4,x0)) ag (x2,x1) (.here _ rfl (.refl _) (.refl _))))))
 (fun v6 ac=>(kIxR (l:=x3) (k:=v6.snd.fst) Yu fun ap=>(kC (sh:=Zf) (Q66 ac.snd ac.fst ap.fBody v6.snd.snd) fun ad=>(kIf (c:=ad.fE !=(0:Int)) (kX (alts:=Vb (x1,x3,x4,x0) ()) (.inr ad) (.next (.here _ rfl (.cons (LeV.undef (AV.sl (1:Nat) (List.map eS ac.fst))) (.cons (LeV.refl (AV.ptr (0:Nat) (0:Nat) (0:Nat))) .nil)) (.refl _))))
 (kM0 (alts:=Vb (x1,x3,x4,x0) ()) (Q67 x1 ad.fUsed x3 x4 v6.fst (wr (v6.snd.fst+(1:Int))))))))))))))))))
 (kX (alts:=Vb (x1,x3,x4,x0) ()) (.inl (x2,a9)) (.here _ rfl (.refl _) (.refl _))))) h))
theorem FI(x0:Qd)(x1:List Qt)(x2:List Str)(x3:List Qe)(x4:List Int)(r:QG)(h:Vi x0 x1 x2 x3 x4=some r):PU 56 [Qp x0,G4 x1,eLS x2,X8 x3,eLI x4] (Zf r):=(AD x0).1 x1 x2 x3 x4 r h
def V4(s:Qd)(u:Unit)(o:Bool):List Alt:=jb o (fun b=>[.ptr 0 0 0,.bool b]) [.cells 0 (Qp s).cells]
def GR(x0:Qd):Option (List Int×Int):=
 Vu x0.fBody (41:Int)>>=fun v0=>
 if(40:Int)<v0 then
 some ([],(13:Int))
 else
 some ()>>=fun v1=>
 (Jp x0.fBody (2000:Int)>>=fun v3=>
 if(2000:Int)<v3 then
 some true
 else
 some (List.length x0.fBufs:Int)>>=fun v4=>
 if(128:Int)<v4 then
 some true
 else
 some false)>>=fun v2=>if v2 then
 some ([],(2:Int))
 else
 WE x0>>=fun v7=>
 if v7 !=(0:Int) then
 some ([],v7)
 else
 Vi x0 [] [] x0.fBody []>>=fun v8=>
 some (v8.fWay,v8.fE)
theorem Rs(x0:Qd)(r:(List Int×Int))(h:GR x0=some r):PU 25 [Qp x0] (VY r):=
 Pu2 (hs:=[(8,.c eI),(9,.split),(12,.c eI),(13,.split),(17,.n eI 17 none),(18,.split),(21,.c eI),(23,.split),(28,.c Zf),(5000003,.l [] [] [] [1,19] [kk 1] (V4 x0))]) ((kC (sh:=eI) (AX x0.fBody (41:Int)) fun v0=>(kIfD (p:=(40:Int)<v0) (kE (enc:=VY) ([],(13:Int)) (LeT.tup (.cons (LeT.nil 1) (.cons (LeT.refl (ii (13:Int))) .nil))))
 (kJb (id:=5000003) () (fun v1 a4 v2=>(kC (sh:=eI) (FM x0.fBody (2000:Int)) fun v3=>(kIfD (p:=(2000:Int)<v3) (kXj (alts:=V4 x0) a4 true (.here () rfl (.refl _) (.refl _)))
 (kN _ (mLen (sh:=Q5) x0.fBufs) fun v4=>(kIfD (p:=(128:Int)<v4) (kXj (alts:=V4 x0) a4 true (.here () rfl (.refl _) (.refl _)))
 (kXj (alts:=V4 x0) a4 false (.next (.here () rfl (.refl _) (.refl _)))))))))
 (fun v1=>(kE (enc:=VY) ([],(2:Int)) (LeT.tup (.cons (LeT.nil 1) (.cons (LeT.refl (ii (2:Int))) .nil)))))
 (fun v1=>(kC (sh:=eI) (FJ x0) fun v7=>(kIf (c:=v7 !=(0:Int)) (kE (enc:=VY) ([],v7) (LeT.tup (.cons (LeT.nil 1) (.cons (LeT.refl (ii v7)) .nil))))
 (kC (sh:=Zf) (fun y hy=>Pu.le (FI x0 [] [] x0.fBody [] y hy) (.cons (LeT.refl (AV.agg [AV.sl (8:Nat) (List.map Q5 x0.fBufs),AV.sl (20:Nat) (List.map Qh x0.fBody)])) (.cons (LeT.nil 2) (.cons (LeT.nil 1) (.cons (LeT.refl (AV.sl (20:Nat) (List.map Qh x0.fBody))) (.cons (LeT.nil 1) .nil))))) (LeT.refl _)) fun v8=>(kEr (enc:=VY) (v8.fWay,v8.fE))))))))) h)
end Go.Proofs.YtolcgikajjkjgaaGreatDoor
end
noncomputable section
namespace Go.Proofs.YtolcgikajjkjgaaGreatDoor
open Go HY
set_option maxRecDepth 1000000
set_option linter.unusedVariables false
def UQ(s:(Int×Q1))(u:Int)(o:Int):List Alt:=[⟨fun(x:Int)=>x=o,.exit 2,fun x=>[ii s.1,.ptr 0 0 0,ii x,ii u],fun x=>[.cells 0 (Q2 s.2).cells]⟩]
def Ju(s:(Int×Q1×Int))(u:(Int×Int))(o:Bool):List Alt:=jb o (fun b=>[ii (s.1),.ptr 0 0 0,ii (u.1),ii (s.2.2),ii (u.2),.bool b]) [.cells 0 (Q2 (s.2.1)).cells]
def Yx(x1:Int)(x2:Q1)(x5:Int)(x6:Int)(x7:Int):Option Int:=
 some (x5,x7)>>=fun v0=>
 (ix x2.fIdx x6>>=fun v2=>
 some (List.length v2.fAt:Int)>>=fun v3=>
 if x7<v3 then
 if x5≤x1 then
 some true
 else
 some false
 else
 some false)>>=fun v1=>if v1 then
 ix x2.fIdx x6>>=fun v5=>
 ix v5.fAt v0.snd>>=fun v6=>
 some (List.length v6.fL:Int)>>=fun v7=>
 some (wr (v0.fst+v7):Int)>>=fun v8=>
 Yx x1 x2 v8 x6 (wr (v0.snd+(1:Int)))
 else
 some v0.fst
 partial_fixpoint
theorem T5(x1:Int)(x2:Q1)(x5:Int)(x6:Int)(x7:Int)(o:Int)(h:Yx x1 x2 x5 x6 x7=some o):LO 41 7 101 [1,2,5,6,7] [ii x1,.ptr 0 0 0,ii x5,ii x6,ii x7] [.cells 0 (Q2 x2).cells] [1,2,5,6] (UQ (x1,x2) x6 o):=
 Yx.partial_correctness x1 x2 x6 (fun x5 x7 o=>LO 41 7 101 [1,2,5,6,7] [ii x1,.ptr 0 0 0,ii x5,ii x6,ii x7] [.cells 0 (Q2 x2).cells] [1,2,5,6] (UQ (x1,x2) x6 o))
 (fun Yx Q4n x5 x7 o h=>
 Lp2 (hs:=[(5,.n eI 5 none),(5,.n eI 5 none),(52,.e Q7),(55,.n eI 55 none),(56,.split),(60,.split),(68,.e Q7),(72,.e Qg),(75,.n eI 75 none),(5,.n eI 5 none),(5,.n eI 5 none),(5000007,.l [] [] [] [1,2,5,6,7,61] [kk 2] (Ju (x1,x2,x6)))]) (kb:=[kk 2]) (kbx:=[kk 2]) ((kJb (id:=5000007) (x5,x7) (fun v0 a8 v1=>(kIx (enc:=Q7) (l:=x2.fIdx) (k:=x6) fun v2=>(kN _ (mLen (sh:=Qg) v2.fAt) fun v3=>(kIfD (p:=x7<v3) (kIfD (p:=x5≤x1) (kXj (alts:=Ju (x1,x2,x6)) a8 true (.here () rfl (.refl _) (.refl _)))
 (kXj (alts:=Ju (x1,x2,x6)) a8 false (.next (.here () rfl (.refl _) (.refl _)))))
 (kXj (alts:=Ju (x1,x2,x6)) a8 false (.next (.here () rfl (.refl _) (.refl _))))))))
 (fun v0=>(kIx (enc:=Q7) (l:=x2.fIdx) (k:=x6) fun v5=>(kIx (enc:=Qg) (l:=v5.fAt) (k:=v0.snd) fun v6=>(kN _ (mLen (sh:=Qq) v6.fL) fun v7=>(kN (wr (v0.fst+v7)) rfl fun v8=>(kM0 (alts:=UQ (x1,x2) x6) (Q4n v8 (wr (v0.snd+(1:Int))))))))))
 (fun v0=>(kX (alts:=UQ (x1,x2) x6) v0.fst (.here _ rfl (.refl _) (.refl _))))) h)) x5 x7 o h
def UP(s:(Int×Q1))(u:Unit)(o:Int):List Alt:=[⟨fun(x:Int)=>x=o,.exit 0,fun x=>[ii s.1,.ptr 0 0 0,ii x],fun x=>[.cells 0 (Q2 s.2).cells]⟩]
def Jt(s:(Int×Q1))(u:(Int×Int))(o:Bool):List Alt:=jb o (fun b=>[ii (s.1),.ptr 0 0 0,ii (u.1),ii (u.2),.bool b]) [.cells 0 (Q2 (s.2)).cells]
def Yw(x1:Int)(x2:Q1)(x5:Int)(x6:Int):Option Int:=
 some (x5,x6)>>=fun v0=>
 (some (List.length x2.fIdx:Int)>>=fun v2=>
 if x6<v2 then
 if x5≤x1 then
 some true
 else
 some false
 else
 some false)>>=fun v1=>if v1 then
 ix x2.fIdx v0.snd>>=fun v4=>
 ix x2.fIdx v0.snd>>=fun v5=>
 some (List.length v4.fLin.fL:Int)>>=fun v6=>
 some (List.length v5.fAt:Int)>>=fun v7=>
 some (wr (wr (v0.fst+(↑(List.map Qq v4.fLin.fL).length:Int))+v7):Int)>>=fun v8=>
 some v0.snd>>=fun v9=>
 Yx x1 x2 v8 v0.snd (0:Int)>>=fun a5=>
 Yw x1 x2 a5 (wr (v9+(1:Int)))
 else
 some v0.fst
 partial_fixpoint
theorem T4(x1:Int)(x2:Q1)(x5:Int)(x6:Int)(o:Int)(h:Yw x1 x2 x5 x6=some o):LO 41 3 101 [1,2,5,6] [ii x1,.ptr 0 0 0,ii x5,ii x6] [.cells 0 (Q2 x2).cells] [1,2,5] (UP (x1,x2) () o):=
 Yw.partial_correctness x1 x2 (fun x5 x6 o=>LO 41 3 101 [1,2,5,6] [ii x1,.ptr 0 0 0,ii x5,ii x6] [.cells 0 (Q2 x2).cells] [1,2,5] (UP (x1,x2) () o))
 (fun Yw Q4m x5 x6 o h=>
 Lp2 (hs:=[(5,.n eI 5 none),(21,.n eI 21 none),(22,.split),(26,.split),(34,.e Q7),(38,.n eI 38 none),(43,.e Q7),(46,.n eI 46 none),(5,.n eI 5 none),(5,.n eI 5 none),(5,.n eI 5 none),(3000008,.l [] [1,2,5,6,7] [kk 2] [1,2,5,6] [kk 2] (UQ (x1,x2))),(5000003,.l [] [] [] [1,2,5,6,27] [kk 2] (Jt (x1,x2)))]) (kb:=[kk 2]) (kbx:=[kk 2]) ((kJb (id:=5000003) (x5,x6) (fun v0 a8 v1=>(kN _ (mLen (sh:=Q7) x2.fIdx) fun v2=>(kIfD (p:=x6<v2) (kIfD (p:=x5≤x1) (kXj (alts:=Jt (x1,x2)) a8 true (.here () rfl (.refl _) (.refl _)))
 (kXj (alts:=Jt (x1,x2)) a8 false (.next (.here () rfl (.refl _) (.refl _)))))
 (kXj (alts:=Jt (x1,x2)) a8 false (.next (.here () rfl (.refl _) (.refl _)))))))
 (fun v0=>(kIx (enc:=Q7) (l:=x2.fIdx) (k:=v0.snd) fun v4=>(kIx (enc:=Q7) (l:=x2.fIdx) (k:=v0.snd) fun v5=>(kN _ (mLen (sh:=Qq) v4.fLin.fL) fun v6=>(kN _ (mLen (sh:=Qg) v5.fAt) fun v7=>(kN (wr (wr (v0.fst+(↑(List.map Qq v4.fLin.fL).length:Int))+v7)) rfl fun v8=>(kL1 v0.snd (T5 x1 x2 v8 v0.snd (0:Int)) fun v9 a9=>(kM0 (alts:=UP (x1,x2) ()) (Q4m a9 (wr (v9+(1:Int))))))))))))
 (fun v0=>(kX (alts:=UP (x1,x2) ()) v0.fst (.here _ rfl (.refl _) (.refl _))))) h)) x5 x6 o h
def Ut(s:(Int×Q1))(u:Unit)(o:Int):List Alt:=[⟨fun(x:Int)=>x=o,.exit 4,fun x=>[ii x],fun x=>[]⟩]
def Jv(s:(Int×Q1))(u:(Int×Int))(o:Bool):List Alt:=jb o (fun b=>[ii (s.1),.ptr 0 0 0,ii (u.1),ii (u.2),.bool b]) [.cells 0 (Q2 (s.2)).cells]
mutual
def Ve(x0:Q1)(x1:Int):Option Int:=
 some (List.length x0.fLin.fL:Int)>>=fun v0=>
 some (List.length x0.fIdx:Int)>>=fun v1=>
 some (wr (wr ((1:Int)+v0)+v1):Int)>>=fun v2=>
 some ()>>=fun v3=>
 Yw x1 x0 v2 (0:Int)>>=fun v5=>
 some ()>>=fun v6=>
 Y3 x1 x0 v5 (0:Int)>>=fun v8=>
 some v8
 partial_fixpoint
def Y3(x1:Int)(x2:Q1)(x5:Int)(x8:Int):Option Int:=
 some (x5,x8)>>=fun v0=>
 (some (List.length x2.fArgs:Int)>>=fun v2=>
 if x8<v2 then
 if x5≤x1 then
 some true
 else
 some false
 else
 some false)>>=fun v1=>if v1 then
 Option.map Qb.f (ix x2.fArgs v0.snd)>>=fun v4=>
 Ve v4 (wr (x1 - v0.fst))>>=fun v5=>
 some (wr (v0.fst+v5):Int)>>=fun v6=>
 Y3 x1 x2 v6 (wr (v0.snd+(1:Int)))
 else
 some v0.fst
 partial_fixpoint
end
theorem Ay:(∀(x0:Q1) (x1:Int) (r:Int),Ve x0 x1=some r→PU 41 [Q2 x0,eI x1] (eI r))∧(∀(x1:Int) (x2:Q1) (x5:Int) (x8:Int) (o:Int),Y3 x1 x2 x5 x8=some o→LO 41 11 101 [1,2,5,8] [ii x1,.ptr 0 0 0,ii x5,ii x8] [.cells 0 (Q2 x2).cells] [5] (Ut (x1,x2) () o)):=
 Ve.mutual_partial_correctness (fun x0 x1 r=>PU 41 [Q2 x0,eI x1] (eI r)) (fun x1 x2 x5 x8 o=>LO 41 11 101 [1,2,5,8] [ii x1,.ptr 0 0 0,ii x5,ii x8] [.cells 0 (Q2 x2).cells] [5] (Ut (x1,x2) () o))
 (fun Y3 Q4l x0 x1 r h=>
 Pu2 (hs:=[(12,.n eI 12 none),(16,.n eI 16 none),(5,.n eI 5 none),(5,.n eI 5 none),(5,.n eI 5 none),(5,.n eI 5 none),(3000012,.l [] [1,2,5,8] [kk 2] [5] [] (Ut (x1,x0))),(3000004,.l [] [1,2,5,6] [kk 2] [1,2,5] [kk 2] (UP (x1,x0)))]) ((kN _ (mLen (sh:=Qq) x0.fLin.fL) fun v0=>(kN _ (mLen (sh:=Q7) x0.fIdx) fun v1=>(kN (wr (wr ((1:Int)+v0)+v1)) rfl fun v2=>(kL1 () (T4 x1 x0 v2 (0:Int)) fun v3 v5=>(kL1 () (Q4l x1 x0 v5 (0:Int)) fun v6 v8=>(kEr (enc:=eI) v8)))))) h))
 (fun Ve Y3 Q4i Q4l x1 x2 x5 x8 o h=>
 Lp2 (hs:=[(5,.n eI 5 none),(5,.n eI 5 none),(5,.n eI 5 none),(80,.n eI 80 none),(81,.split),(85,.split),(93,.e Q2),(98,.c eI),(5,.n eI 5 none),(5000011,.l [] [] [] [1,2,5,8,86] [kk 2] (Jv (x1,x2)))]) (kb:=[kk 2]) (kbx:=[]) ((kJb (id:=5000011) (x5,x8) (fun v0 a7 v1=>(kN _ (mLen (sh:=Qr) x2.fArgs) fun v2=>(kIfD (p:=x8<v2) (kIfD (p:=x5≤x1) (kXj (alts:=Jv (x1,x2)) a7 true (.here () rfl (.refl _) (.refl _)))
 (kXj (alts:=Jv (x1,x2)) a7 false (.next (.here () rfl (.refl _) (.refl _)))))
 (kXj (alts:=Jv (x1,x2)) a7 false (.next (.here () rfl (.refl _) (.refl _)))))))
 (fun v0=>(kIxR (l:=x2.fArgs) (k:=v0.snd) Yt fun v4=>(kC (sh:=eI) (Q4i v4 (wr (x1 - v0.fst))) fun v5=>(kN (wr (v0.fst+v5)) rfl fun v6=>(kM0 (alts:=Ut (x1,x2) ()) (Q4l x1 x2 v6 (wr (v0.snd+(1:Int)))))))))
 (fun v0=>(kX (alts:=Ut (x1,x2) ()) v0.fst (.here _ rfl (.refl _) (.refl _))))) h))
theorem Hj(x0:Q1)(x1:Int)(r:Int)(h:Ve x0 x1=some r):PU 41 [Q2 x0,eI x1] (eI r):=(Ay).1 x0 x1 r h
def V8(s:((List Qe)×Int))(u:Unit)(o:Int):List Alt:=[⟨fun(x:Int)=>x=o,.exit 0,fun x=>[ii x],fun x=>[]⟩]
def KK(s:((List Qe)×Int))(u:(Int×Int))(o:Bool):List Alt:=jb o (fun b=>[.sl 20 (List.map Qh (s.1)),ii (s.2),ii (u.1),ii (u.2),.bool b]) []
mutual
def Yo(x0:List Qe)(x1:Int):Option Int:=
 some (List.length x0:Int)>>=fun v0=>
 some (v0:Int)>>=fun v1=>
 some ()>>=fun v2=>
 ZK x0 x1 v1 (0:Int)>>=fun v4=>
 some v4
 partial_fixpoint
def ZK(x0:List Qe)(x1:Int)(x5:Int)(x6:Int):Option Int:=
 some (x5,x6)>>=fun v0=>
 (some (List.length x0:Int)>>=fun v2=>
 if x6<v2 then
 if x5≤x1 then
 some true
 else
 some false
 else
 some false)>>=fun v1=>if v1 then
 Option.map Qe.f (ix x0 v0.snd)>>=fun v4=>
 Ve v4.fExpr x1>>=fun v5=>
 Option.map Qe.f (ix x0 v0.snd)>>=fun v6=>
 Ve (KG.mk (0:Int) [] (gVal.mk (0:Int) (0:Int)) (Q6.mk (0:Int) (0:Int) (0:Int) (0:Int) (0:Int)) (gLin.mk (0:Int) []) v6.fIdx []:Q1) x1>>=fun v7=>
 Option.map Qe.f (ix x0 v0.snd)>>=fun v8=>
 Yo v8.fBody (if true=true then max (0:Int) (wr (x1 - v0.fst)) else min (0:Int) (wr (x1 - v0.fst)))>>=fun v9=>
 some ((KG.mk (0:Int) [] (gVal.mk (0:Int) (0:Int)) (Q6.mk (0:Int) (0:Int) (0:Int) (0:Int) (0:Int)) (gLin.mk (0:Int) []) v6.fIdx []:Q1))>>=fun ab=>
 some (wr (wr (wr (v0.fst+v5)+v7)+v9):Int)>>=fun a6=>
 ZK x0 x1 a6 (wr (v0.snd+(1:Int)))
 else
 some v0.fst
 partial_fixpoint
end
theorem Hg:(∀(x0:List Qe) (x1:Int) (r:Int),Yo x0 x1=some r→PU 17 [X8 x0,eI x1] (eI r))∧(∀(x0:List Qe) (x1:Int) (x5:Int) (x6:Int) (o:Int),ZK x0 x1 x5 x6=some o→LO 17 3 50 [0,1,5,6] [.sl 20 (List.map Qh x0),ii x1,ii x5,ii x6] [] [5] (V8 (x0,x1) () o)):=
 Yo.mutual_partial_correctness (fun x0 x1 r=>PU 17 [X8 x0,eI x1] (eI r)) (fun x0 x1 x5 x6 o=>LO 17 3 50 [0,1,5,6] [.sl 20 (List.map Qh x0),ii x1,ii x5,ii x6] [] [5] (V8 (x0,x1) () o))
 (fun ZK Q4k x0 x1 r h=>
 Pu2 (hs:=[(8,.n eI 8 none),(5,.n eI 5 none),(3000004,.l [] [0,1,5,6] [] [5] [] (V8 (x0,x1)))]) ((kN _ (mLen (sh:=Qh) x0) fun v0=>(kN v0 rfl fun v1=>(kL1 () (Q4k x0 x1 v1 (0:Int)) fun v2 v4=>(kEr (enc:=eI) v4)))) h))
 (fun Yo ZK Q4j Q4k x0 x1 x5 x6 o h=>
 Lp2 (hs:=[(11,.n eI 11 none),(12,.split),(16,.split),(23,.e Qx),(27,.c eI),(31,.e Qx),(34,.n Q2 34 none),(36,.c eI),(40,.e Qx),(47,.c eI),(5,.n eI 5 none),(5000003,.l [] [] [] [0,1,5,6,17] [] (KK (x0,x1)))]) (kb:=[]) (kbx:=[]) ((kJb (id:=5000003) (x5,x6) (fun v0 a6 v1=>(kN _ (mLen (sh:=Qh) x0) fun v2=>(kIfD (p:=x6<v2) (kIfD (p:=x5≤x1) (kXj (alts:=KK (x0,x1)) a6 true (.here () rfl (.refl _) (.refl _)))
 (kXj (alts:=KK (x0,x1)) a6 false (.next (.here () rfl (.refl _) (.refl _)))))
 (kXj (alts:=KK (x0,x1)) a6 false (.next (.here () rfl (.refl _) (.refl _)))))))
 (fun v0=>(kIxR (l:=x0) (k:=v0.snd) Yu fun v4=>(kC (sh:=eI) (Hj v4.fExpr x1) fun v5=>(kIxR (l:=x0) (k:=v0.snd) Yu fun v6=>(kC (sh:=eI) (fun y hy=>Pu.le (Hj (KG.mk (0:Int) [] (gVal.mk (0:Int) (0:Int)) (Q6.mk (0:Int) (0:Int) (0:Int) (0:Int) (0:Int)) (gLin.mk (0:Int) []) v6.fIdx []:Q1) x1 y hy) (.cons (LeT.agg (.cons (LeT.refl (ii (0:Int))) (.cons (LeT.refl (AV.str [])) (.cons (LeT.refl (ii (0:Int))) (.cons (LeT.refl (ii (0:Int))) (.cons (LeT.refl (ii (0:Int))) (.cons (LeT.refl (ii (0:Int))) (.cons (LeT.refl (ii (0:Int))) (.cons (LeT.refl (ii (0:Int))) (.cons (LeT.refl (ii (0:Int))) (.cons (LeT.refl (ii (0:Int))) (.cons (LeT.nil 2) (.cons (LeT.refl (AV.sl (4:Nat) (List.map Q7 v6.fIdx))) (.cons (LeT.nil 13) .nil)))))))))))))) (.cons (LeT.refl (ii x1)) .nil)) (LeT.refl _)) fun v7=>(kIxR (l:=x0) (k:=v0.snd) Yu fun v8=>(kC (sh:=eI) (Q4j v8.fBody (if true=true then max (0:Int) (wr (x1 - v0.fst)) else min (0:Int) (wr (x1 - v0.fst)))) fun v9=>(kW (sh:=Q2) (KG.mk (0:Int) [] (gVal.mk (0:Int) (0:Int)) (Q6.mk (0:Int) (0:Int) (0:Int) (0:Int) (0:Int)) (gLin.mk (0:Int) []) v6.fIdx []:Q1) (LeV.agg (.cons (LeV.refl (ii (0:Int))) (.cons (LeV.refl (AV.str [])) (.cons (LeV.refl (ii (0:Int))) (.cons (LeV.refl (ii (0:Int))) (.cons (LeV.refl (ii (0:Int))) (.cons (LeV.refl (ii (0:Int))) (.cons (LeV.refl (ii (0:Int))) (.cons (LeV.refl (ii (0:Int))) (.cons (LeV.refl (ii (0:Int))) (.cons (LeV.refl (ii (0:Int))) (.cons (LeV.nil 2) (.cons (LeV.refl (AV.sl (4:Nat) (List.map Q7 v6.fIdx))) (.cons (LeV.nil 13) .nil)))))))))))))) fun af=>(kN (wr (wr (wr (v0.fst+v5)+v7)+v9)) rfl fun aa=>(kM0 (alts:=V8 (x0,x1) ()) (Q4k x0 x1 aa (wr (v0.snd+(1:Int))))))))))))))
 (fun v0=>(kX (alts:=V8 (x0,x1) ()) v0.fst (.here _ rfl (.refl _) (.refl _))))) h))
theorem EE(x0:List Qe)(x1:Int)(r:Int)(h:Yo x0 x1=some r):PU 17 [X8 x0,eI x1] (eI r):=(Hg).1 x0 x1 r h
def UX(s:Unit)(u:((List Int)×Int))(o:Int):List Alt:=[⟨fun(x:Int)=>x=o,.exit 0,fun x=>[ii x],fun x=>[]⟩]
def Kn(x3:Int)(x9:List Int)(a4:Int)(a3:Int):Option Int:=
 if a3<a4 then
 ix x9 a3>>=fun v0=>
 some (wr (x3*v0):Int)>>=fun v1=>
 Kn v1 x9 a4 (wr (a3+(1:Int)))
 else
 some x3
 partial_fixpoint
theorem Tk(x3:Int)(x9:List Int)(a3:Int)(a4:Int)(o:Int)(h:Kn x3 x9 a3 a4=some o):LO 24 5 20 [3,9,10,11] [ii x3,.sl 1 (List.map eI x9),ii a3,ii a4] [] [3] (UX () (x9,a3) o):=
 Kn.partial_correctness x9 a3 (fun x3 a4 o=>LO 24 5 20 [3,9,10,11] [ii x3,.sl 1 (List.map eI x9),ii a3,ii a4] [] [3] (UX () (x9,a3) o))
 (fun Kn Q6n x3 a4 o h=>
 Lp2 (hs:=[(12,.split),(13,.e eI),(3,.n eI 3 none)]) (kb:=[]) (kbx:=[]) ((kIfD (p:=a4<a3) (kIx (enc:=eI) (l:=x9) (k:=a4) fun v0=>(kN (wr (x3*v0)) rfl fun v1=>(kM0 (alts:=UX () (x9,a3)) (Q6n v1 (wr (a4+(1:Int)))))))
 (kX (alts:=UX () (x9,a3)) x3 (.here _ rfl (.refl _) (.refl _)))) h)) x3 a4 o h
def Dw(x0:List Int):Option Int:=
 VW x0>>=fun v0=>
 if v0 !=(0:Int) then
 some (0:Int)
 else
 some ((1:Int):Int)>>=fun v1=>
 some (List.length x0:Int)>>=fun v2=>
 some (x0,v2)>>=fun v3=>
 Kn v1 x0 v2 (0:Int)>>=fun v5=>
 some v5
theorem Hr(x0:List Int)(r:Int)(h:Dw x0=some r):PU 24 [eLI x0] (eI r):=
 Pu2 (hs:=[(7,.c eI),(8,.split),(10,.n eI 10 none),(3,.n eI 3 none),(3000006,.l [] [3,9,10,11] [] [3] [] (UX ()))]) ((kC (sh:=eI) (Wa x0) fun v0=>(kIf (c:=v0 !=(0:Int)) (kEr (enc:=eI) (0:Int))
 (kN (1:Int) rfl fun v1=>(kN _ (mLen (sh:=eI) x0) fun v2=>(kL1 (x0,v2) (Tk v1 x0 v2 (0:Int)) fun v3 v5=>(kEr (enc:=eI) v5)))))) h)
end Go.Proofs.YtolcgikajjkjgaaGreatDoor
end
noncomputable section
namespace Go.Proofs.YtolcgikajjkjgaaGreatDoor
open Go HY
set_option maxRecDepth 1000000
set_option linter.unusedVariables false
def VK(s:List Qe)(u:Unit)(o:Unit ⊕ Bool):List Alt:=[⟨fun(x:Unit)=>(Sum.inl x:Unit ⊕ Bool)=o,.exit 0,fun x=>[.undef],fun x=>[]⟩,⟨fun(x:Bool)=>(Sum.inr x:Unit ⊕ Bool)=o,.ret,fun x=>[.bool x],fun x=>[]⟩]
def Kw(s:List Qe)(u:Int)(o:Bool):List Alt:=jb o (fun b=>[.sl 20 (List.map Qh s),ii u,.bool b]) []
mutual
def Vs(x0:List Qe):Option Bool:=
 some ()>>=fun v0=>
 Y4 x0 (0:Int)>>=fun v1=>(match v1 with
 | (.inl v2)=>
 some true
 | (.inr v3)=>
 some v3)
 partial_fixpoint
def Y4(x0:List Qe)(x3:Int):Option (Unit ⊕ Bool):=
 some (List.length x0:Int)>>=fun v0=>
 if x3<v0 then
 some x3>>=fun v1=>
 (Option.map Qe.f (ix x0 x3)>>=fun v3=>
 if(100:Int)< (↑(List.length v3.fName):Int) then
 some true
 else
 Option.map Qe.f (ix x0 x3)>>=fun v4=>
 some (List.length v4.fIdx:Int)>>=fun v5=>
 if(20:Int)<v5 then
 some true
 else
 Option.map Qe.f (ix x0 x3)>>=fun v6=>
 Vs v6.fBody>>=fun v7=>if v7 then
 some false
 else
 some true)>>=fun v2=>if v2 then
 some (.inr false)
 else
 Y4 x0 (wr (v1+(1:Int)))
 else
 some (.inl ())
 partial_fixpoint
end
theorem Se:(∀(x0:List Qe) (r:Bool),Vs x0=some r→PU 60 [X8 x0] (eB r))∧(∀(x0:List Qe) (x3:Int) (o:Unit ⊕ Bool),Y4 x0 x3=some o→LO 60 2 35 [0,3] [.sl 20 (List.map Qh x0),ii x3] [] [2] (VK x0 () o)):=
 Vs.mutual_partial_correctness (fun x0 r=>PU 60 [X8 x0] (eB r)) (fun x0 x3 o=>LO 60 2 35 [0,3] [.sl 20 (List.map Qh x0),ii x3] [] [2] (VK x0 () o))
 (fun Y4 Q50 x0 r h=>
 Pu2 (hs:=[(3000003,.l [] [0,3] [] [2] [] (VK x0))]) ((kL2 () (hL:=(Q50 x0 (0:Int))) (hA:=fun v0 v2=>(kEr (enc:=eB) true))
 (hB:=fun v0 v3=>(kEr (enc:=eB) v3))) h))
 (fun Vs Y4 Q4z Q50 x0 x3 o h=>
 Lp2 (hs:=[(6,.n eI 6 none),(7,.split),(12,.e Qx),(16,.split),(20,.e Qx),(23,.n eI 23 none),(24,.split),(29,.e Qx),(32,.cb),(5000004,.l [] [] [] [0,3,34] [] (Kw x0))]) (kb:=[]) (kbx:=[]) ((kN _ (mLen (sh:=Qh) x0) fun v0=>(kIfD (p:=x3<v0) (kJb (id:=5000004) x3 (fun v1 a5 v2=>(kIxR (l:=x0) (k:=x3) Yu fun v3=>(kIfD (p:=(100:Int)< (↑(List.length v3.fName):Int)) (kXj (alts:=Kw x0) a5 true (.here () rfl (.refl _) (.refl _)))
 (kIxR (l:=x0) (k:=x3) Yu fun v4=>(kN _ (mLen (sh:=Q7) v4.fIdx) fun v5=>(kIfD (p:=(20:Int)<v5) (kXj (alts:=Kw x0) a5 true (.here () rfl (.refl _) (.refl _)))
 (kIxR (l:=x0) (k:=x3) Yu fun v6=>(kCb (Q4z v6.fBody) (kXj (alts:=Kw x0) a5 false (.next (.here () rfl (.refl _) (.refl _))))
 (kXj (alts:=Kw x0) a5 true (.here () rfl (.refl _) (.refl _)))))))))))
 (fun v1=>(kX (alts:=VK x0 ()) (.inr false) (.next (.here _ rfl (.refl _) (.refl _)))))
 (fun v1=>(kM0 (alts:=VK x0 ()) (Q50 x0 (wr (v1+(1:Int)))))))
 (kX (alts:=VK x0 ()) (.inl ()) (.here _ rfl (.refl _) (.refl _))))) h))
theorem AN(x0:List Qe)(r:Bool)(h:Vs x0=some r):PU 60 [X8 x0] (eB r):=(Se).1 x0 r h
def W6(x0:List Qe)(x1:Int):Option Bool:=
 Yo x0 x1>>=fun v0=>
 if v0≤x1 then
 Vs x0>>=fun v1=>
 some v1
 else
 some false
theorem Rh(x0:List Qe)(x1:Int)(r:Bool)(h:W6 x0 x1=some r):PU 29 [X8 x0,eI x1] (eB r):=
 Pu2 (hs:=[(7,.c eI),(9,.split),(12,.c eB)]) ((kC (sh:=eI) (EE x0 x1) fun v0=>(kIfD (p:=v0≤x1) (kC (sh:=eB) (AN x0) fun v1=>(kEr (enc:=eB) v1))
 (kEr (enc:=eB) false))) h)
def Uo(s:(Int×Qd))(u:Unit)(o:Unit ⊕ Bool):List Alt:=[⟨fun(x:Unit)=>(Sum.inl x:Unit ⊕ Bool)=o,.exit 0,fun x=>[ii s.1,.ptr 0 0 0,.undef],fun x=>[.cells 0 (Qp s.2).cells]⟩,⟨fun(x:Bool)=>(Sum.inr x:Unit ⊕ Bool)=o,.ret,fun x=>[ii s.1,.ptr 0 0 0,.bool x],fun x=>[.cells 0 (Qp s.2).cells]⟩]
def U7(s:(Int×Qd))(u:Int)(o:Bool):List Alt:=jb o (fun b=>[ii (s.1),.ptr 0 0 0,ii u,.bool b]) [.cells 0 (Qp (s.2)).cells]
def K7(x2:Qd)(x5:Int):Option (Unit ⊕ Bool):=
 some (List.length x2.fBufs:Int)>>=fun v0=>
 if x5<v0 then
 some x5>>=fun v1=>
 (ix x2.fBufs x5>>=fun v3=>
 some (List.length v3.fDims:Int)>>=fun v4=>
 if(20:Int)<v4 then
 some true
 else
 ix x2.fBufs x5>>=fun v5=>
 if(100:Int)< (↑(List.length v5.fName):Int) then
 some true
 else
 some false)>>=fun v2=>if v2 then
 some (.inr false)
 else
 K7 x2 (wr (v1+(1:Int)))
 else
 some (.inl ())
 partial_fixpoint
theorem Sp(x1:Int)(x2:Qd)(x5:Int)(o:Unit ⊕ Bool)(h:K7 x2 x5=some o):LO 9 4 39 [1,2,5] [ii x1,.ptr 0 0 0,ii x5] [.cells 0 (Qp x2).cells] [1,2,4] (Uo (x1,x2) () o):=
 K7.partial_correctness x2 (fun x5 o=>∀(x1:Int),LO 9 4 39 [1,2,5] [ii x1,.ptr 0 0 0,ii x5] [.cells 0 (Qp x2).cells] [1,2,4] (Uo (x1,x2) () o))
 (fun K7 Q4y x5 o h x1=>
 Lp2 (hs:=[(13,.n eI 13 none),(14,.split),(20,.e Q5),(23,.n eI 23 none),(24,.split),(29,.e Q5),(33,.split),(5000006,.l [] [] [] [1,2,5,34] [kk 2] (U7 (x1,x2)))]) (kb:=[kk 2]) (kbx:=[kk 2]) ((kN _ (mLen (sh:=Q5) x2.fBufs) fun v0=>(kIfD (p:=x5<v0) (kJb (id:=5000006) x5 (fun v1 a6 v2=>(kIx (enc:=Q5) (l:=x2.fBufs) (k:=x5) fun v3=>(kN _ (mLen (sh:=eI) v3.fDims) fun v4=>(kIfD (p:=(20:Int)<v4) (kXj (alts:=U7 (x1,x2)) a6 true (.here () rfl (.refl _) (.refl _)))
 (kIx (enc:=Q5) (l:=x2.fBufs) (k:=x5) fun v5=>(kIfD (p:=(100:Int)< (↑(List.length v5.fName):Int)) (kXj (alts:=U7 (x1,x2)) a6 true (.here () rfl (.refl _) (.refl _)))
 (kXj (alts:=U7 (x1,x2)) a6 false (.next (.here () rfl (.refl _) (.refl _))))))))))
 (fun v1=>(kX (alts:=Uo (x1,x2) ()) (.inr false) (.next (.here _ rfl (.refl _) (.refl _)))))
 (fun v1=>(kM0 (alts:=Uo (x1,x2) ()) (fun y hy=>Q4y (wr (v1+(1:Int))) y hy x1))))
 (kX (alts:=Uo (x1,x2) ()) (.inl ()) (.here _ rfl (.refl _) (.refl _))))) h)) x5 o h x1
def Nt(x0:Qd)(x1:Int):Option Bool:=
 some (List.length x0.fBufs:Int)>>=fun v0=>
 if(150:Int)<v0 then
 some false
 else
 some ()>>=fun v1=>
 K7 x0 (0:Int)>>=fun v2=>(match v2 with
 | (.inl v3)=>
 W6 x0.fBody x1>>=fun v4=>
 some v4
 | (.inr v5)=>
 some v5)
theorem Ou(x0:Qd)(x1:Int)(r:Bool)(h:Nt x0 x1=some r):PU 9 [Qp x0,eI x1] (eB r):=
 Pu2 (hs:=[(8,.n eI 8 none),(9,.split),(38,.c eB),(3000005,.l [] [1,2,5] [kk 2] [1,2,4] [kk 2] (Uo (x1,x0)))]) ((kN _ (mLen (sh:=Q5) x0.fBufs) fun v0=>(kIfD (p:=(150:Int)<v0) (kEr (enc:=eB) false)
 (kL2 () (hL:=(Sp x1 x0 (0:Int))) (hA:=fun v1 v3=>(kC (sh:=eB) (Rh x0.fBody x1) fun v4=>(kEr (enc:=eB) v4)))
 (hB:=fun v1 v5=>(kEr (enc:=eB) v5))))) h)
def Up(s:List Q3)(u:Unit)(o:Unit ⊕ Bool):List Alt:=[⟨fun(x:Unit)=>(Sum.inl x:Unit ⊕ Bool)=o,.exit 0,fun x=>[.sl 8 (List.map Q8 s),.undef],fun x=>[]⟩,⟨fun(x:Bool)=>(Sum.inr x:Unit ⊕ Bool)=o,.ret,fun x=>[.sl 8 (List.map Q8 s),.bool x],fun x=>[]⟩]
def V9(s:List Q3)(u:Int)(o:Bool):List Alt:=jb o (fun b=>[.sl 8 (List.map Q8 s),ii u,.bool b]) []
def K8(x0:List Q3)(x3:Int):Option (Unit ⊕ Bool):=
 some (List.length x0:Int)>>=fun v0=>
 if x3<v0 then
 some x3>>=fun v1=>
 (ix x0 x3>>=fun v3=>
 some (List.length v3.fTensor.fVals:Int)>>=fun v4=>
 if(4200:Int)<v4 then
 some true
 else
 ix x0 x3>>=fun v5=>
 some (List.length v5.fTensor.fDims:Int)>>=fun v6=>
 if(20:Int)<v6 then
 some true
 else
 ix x0 x3>>=fun v7=>
 if(100:Int)< (↑(List.length v7.fName):Int) then
 some true
 else
 some false)>>=fun v2=>if v2 then
 some (.inr false)
 else
 K8 x0 (wr (v1+(1:Int)))
 else
 some (.inl ())
 partial_fixpoint
theorem Sq(x0:List Q3)(x3:Int)(o:Unit ⊕ Bool)(h:K8 x0 x3=some o):LO 10 2 40 [0,3] [.sl 8 (List.map Q8 x0),ii x3] [] [0,2] (Up x0 () o):=
 K8.partial_correctness x0 (fun x3 o=>LO 10 2 40 [0,3] [.sl 8 (List.map Q8 x0),ii x3] [] [0,2] (Up x0 () o))
 (fun K8 Q51 x3 o h=>
 Lp2 (hs:=[(6,.n eI 6 none),(7,.split),(12,.e Q8),(16,.n eI 16 none),(17,.split),(21,.e Q8),(25,.n eI 25 none),(26,.split),(31,.e Q8),(35,.split),(5000004,.l [] [] [] [0,3,36] [] (V9 x0))]) (kb:=[]) (kbx:=[]) ((kN _ (mLen (sh:=Q8) x0) fun v0=>(kIfD (p:=x3<v0) (kJb (id:=5000004) x3 (fun v1 a5 v2=>(kIx (enc:=Q8) (l:=x0) (k:=x3) fun v3=>(kN _ (mLen (sh:=Qk) v3.fTensor.fVals) fun v4=>(kIfD (p:=(4200:Int)<v4) (kXj (alts:=V9 x0) a5 true (.here () rfl (.refl _) (.refl _)))
 (kIx (enc:=Q8) (l:=x0) (k:=x3) fun v5=>(kN _ (mLen (sh:=eI) v5.fTensor.fDims) fun v6=>(kIfD (p:=(20:Int)<v6) (kXj (alts:=V9 x0) a5 true (.here () rfl (.refl _) (.refl _)))
 (kIx (enc:=Q8) (l:=x0) (k:=x3) fun v7=>(kIfD (p:=(100:Int)< (↑(List.length v7.fName):Int)) (kXj (alts:=V9 x0) a5 true (.here () rfl (.refl _) (.refl _)))
 (kXj (alts:=V9 x0) a5 false (.next (.here () rfl (.refl _) (.refl _)))))))))))))
 (fun v1=>(kX (alts:=Up x0 ()) (.inr false) (.next (.here _ rfl (.refl _) (.refl _)))))
 (fun v1=>(kM0 (alts:=Up x0 ()) (Q51 (wr (v1+(1:Int)))))))
 (kX (alts:=Up x0 ()) (.inl ()) (.here _ rfl (.refl _) (.refl _))))) h)) x3 o h
def Nu(x0:List Q3):Option Bool:=
 some ()>>=fun v0=>
 K8 x0 (0:Int)>>=fun v1=>(match v1 with
 | (.inl v2)=>
 some (List.length x0:Int)>>=fun v3=>
 some (decide (v3≤(30:Int)))
 | (.inr v4)=>
 some v4)
theorem Ov(x0:List Q3)(r:Bool)(h:Nu x0=some r):PU 10 [X6 x0] (eB r):=
 Pu2 (hs:=[(38,.n eI 38 none),(3000003,.l [] [0,3] [] [0,2] [] (Up x0))]) ((kL2 () (hL:=(Sq x0 (0:Int))) (hA:=fun v0 v2=>(kN _ (mLen (sh:=Q8) x0) fun v3=>(kEr (enc:=eB) (decide (v3≤(30:Int))))))
 (hB:=fun v0 v4=>(kEr (enc:=eB) v4))) h)
def WL(x0:Q6):Option gVal:=
 ZP x0>>=fun v0=>
 if v0 !=(0:Int) then
 some ((gVal.mk (0:Int) (0:Int)))>>=fun v1=>
 some v1
 else
 some ((gVal.mk (0:Int) (1:Int)))>>=fun v2=>
 some v2
theorem FN(x0:Q6)(r:gVal)(h:WL x0=some r):PU 33 [Qc x0] (Qk r):=
 Pu2 (hs:=[(4,.c eI),(5,.split),(6,.n Qk 6 none),(7,.n Qk 7 none)]) ((kC (sh:=eI) (Kc x0) fun v0=>(kIf (c:=v0 !=(0:Int)) (kW (sh:=Qk) (gVal.mk (0:Int) (0:Int)) lr fun v1=>(kEr (enc:=Qk) v1))
 (kW (sh:=Qk) (gVal.mk (0:Int) (1:Int)) lr fun v2=>(kEr (enc:=Qk) v2)))) h)
def Ww(x0:Q3)(x1:Str):Option Bool:=
 some (x0.fName==x1)
theorem Tb(x0:Q3)(x1:Str)(r:Bool)(h:Ww x0 x1=some r):PU 71 [Q8 x0,.ip 1 [.agg [.str x1]] 0 0] (eB r):=
 Pu2 (hs:=[]) ((kEr (enc:=eB) (x0.fName==x1)) h)
def Zi(s:((List Q3)×Str))(u:Int)(o:Unit ⊕ Int):List Alt:=[⟨fun(x:Unit)=>(Sum.inl x:Unit ⊕ Int)=o,.exit 0,fun x=>[.undef],fun x=>[]⟩,⟨fun(x:Int)=>(Sum.inr x:Unit ⊕ Int)=o,.ret,fun x=>[ii x],fun x=>[]⟩]
def Qy(x0:List Q3)(x1:Str)(x7:Int)(x8:Int):Option (Unit ⊕ Int):=
 if x8<x7 then
 ix x0 x8>>=fun v0=>
 Ww v0 x1>>=fun v1=>if v1 then
 some (.inr x8)
 else
 Qy x0 x1 x7 (wr (x8+(1:Int)))
 else
 some (.inl ())
 partial_fixpoint
theorem C9(x0:List Q3)(x1:Str)(x7:Int)(x8:Int)(o:Unit ⊕ Int)(h:Qy x0 x1 x7 x8=some o):LO 70 2 19 [0,1,7,8] [.sl 8 (List.map Q8 x0),.fn 71 [.ip 1 [.agg [.str x1]] 0 0],ii x7,ii x8] [] [4] (Zi (x0,x1) x7 o):=
 Qy.partial_correctness x0 x1 x7 (fun x8 o=>LO 70 2 19 [0,1,7,8] [.sl 8 (List.map Q8 x0),.fn 71 [.ip 1 [.agg [.str x1]] 0 0],ii x7,ii x8] [] [4] (Zi (x0,x1) x7 o))
 (fun Qy Q72 x8 o h=>
 Lp2 (hs:=[(9,.split),(14,.e Q8),(16,.cb)]) (kb:=[]) (kbx:=[]) ((kIfD (p:=x8<x7) (kIx (enc:=Q8) (l:=x0) (k:=x8) fun v0=>(kCb (Tb v0 x1) (kX (alts:=Zi (x0,x1) x7) (.inr x8) (.next (.here _ rfl (.refl _) (.refl _))))
 (kM0 (alts:=Zi (x0,x1) x7) (Q72 (wr (x8+(1:Int)))))))
 (kX (alts:=Zi (x0,x1) x7) (.inl ()) (.here _ rfl (.refl _) (.refl _)))) h)) x8 o h
def KS(x0:List Q3)(x1:Str):Option Int:=
 some (List.length x0:Int)>>=fun v0=>
 some v0>>=fun v1=>
 Qy x0 x1 v0 (0:Int)>>=fun v2=>(match v2 with
 | (.inl v3)=>
 some (-1:Int)
 | (.inr v4)=>
 some v4)
theorem Wc(x0:List Q3)(x1:Str)(r:Int)(h:KS x0 x1=some r):PU 70 [X6 x0,.fn 71 [.ip 1 [.agg [.str x1]] 0 0]] (eI r):=
 Pu2 (hs:=[(7,.n eI 7 none),(3000003,.l [] [0,1,7,8] [] [4] [] (Zi (x0,x1)))]) ((kN _ (mLen (sh:=Q8) x0) fun v0=>(kL2 v0 (hL:=(C9 x0 x1 v0 (0:Int))) (hA:=fun v1 v3=>(kEr (enc:=eI) (-1:Int)))
 (hB:=fun v1 v4=>(kEr (enc:=eI) v4)))) h)
def D5(x0:List Q3)(x1:Str):Option (Qf×Bool):=
 KS x0 x1>>=fun v0=>
 if v0< (0:Int) then
 some ((Qf.mk (Q6.mk (0:Int) (0:Int) (0:Int) (0:Int) (0:Int)) [] []))>>=fun v1=>
 some (v1,false)
 else
 ix x0 v0>>=fun v2=>
 some (v2.fTensor,true)
theorem IL(x0:List Q3)(x1:Str)(r:(Qf×Bool))(h:D5 x0 x1=some r):PU 39 [X6 x0,eS x1] (ZH r):=
 Pu2 (hs:=[(8,.z [{slot:=3,fz:=true}] none),(9,.c eI),(11,.split),(12,.n QA 12 none),(15,.e Q8)]) ((kC (sh:=eI) (Wc x0 x1) fun v0=>(kIfD (p:=v0< (0:Int)) (kW (sh:=QA) (Qf.mk (Q6.mk (0:Int) (0:Int) (0:Int) (0:Int) (0:Int)) [] []) (LeV.agg (.cons (LeV.refl (ii (0:Int))) (.cons (LeV.refl (ii (0:Int))) (.cons (LeV.refl (ii (0:Int))) (.cons (LeV.refl (ii (0:Int))) (.cons (LeV.refl (ii (0:Int))) (.cons (LeV.nil 1) (.cons (LeV.nil 2) .nil)))))))) fun v1=>(kEr (enc:=ZH) (v1,false)))
 (kIx (enc:=Q8) (l:=x0) (k:=v0) fun v2=>(kEr (enc:=ZH) (v2.fTensor,true))))) h)
def YN(s:Qf)(u:((List gVal)×Int))(o:Unit ⊕ Int):List Alt:=[⟨fun(x:Unit)=>(Sum.inl x:Unit ⊕ Int)=o,.exit 0,fun x=>[.undef],fun x=>[]⟩,⟨fun(x:Int)=>(Sum.inr x:Unit ⊕ Int)=o,.ret,fun x=>[ii x],fun x=>[]⟩]
def ZD(x1:Qf)(a4:List gVal)(a5:Int)(a3:Int):Option (Unit ⊕ Int):=
 if a3<a5 then
 ix a4 a3>>=fun v0=>
 D7 x1.fType v0>>=fun v1=>if v1 then
 ZD x1 a4 a5 (wr (a3+(1:Int)))
 else
 some (.inr (1:Int))
 else
 some (.inl ())
 partial_fixpoint
theorem LC(x1:Qf)(a3:List gVal)(a4:Int)(a5:Int)(o:Unit ⊕ Int)(h:ZD x1 a3 a4 a5=some o):LO 64 10 39 [1,27,28,29] [.ptr 0 0 0,.sl 2 (List.map Qk a3),ii a4,ii a5] [.cells 0 (QA x1).cells] [2] (YN x1 (a3,a4) o):=
 ZD.partial_correctness x1 a3 a4 (fun a5 o=>LO 64 10 39 [1,27,28,29] [.ptr 0 0 0,.sl 2 (List.map Qk a3),ii a4,ii a5] [.cells 0 (QA x1).cells] [2] (YN x1 (a3,a4) o))
 (fun ZD Q74 a5 o h=>
 Lp2 (hs:=[(30,.split),(31,.e Qk),(36,.cb)]) (kb:=[kk 1]) (kbx:=[]) ((kIfD (p:=a5<a4) (kIx (enc:=Qk) (l:=a3) (k:=a5) fun v0=>(kCb (IP x1.fType v0) (kM0 (alts:=YN x1 (a3,a4)) (Q74 (wr (a5+(1:Int)))))
 (kX (alts:=YN x1 (a3,a4)) (.inr (1:Int)) (.next (.here _ rfl (.refl _) (.refl _))))))
 (kX (alts:=YN x1 (a3,a4)) (.inl ()) (.here _ rfl (.refl _) (.refl _)))) h)) a5 o h
def Gp(x0:Qf):Option Int:=
 ZP x0.fType>>=fun v0=>
 if v0 !=(0:Int) then
 some v0
 else
 VW x0.fDims>>=fun v1=>
 if v1 !=(0:Int) then
 some v1
 else
 Dw x0.fDims>>=fun v2=>
 some (List.length x0.fVals:Int)>>=fun v3=>
 if v3 !=v2 then
 some (1:Int)
 else
 some (List.length x0.fVals:Int)>>=fun v4=>
 some (x0.fVals,v4)>>=fun v5=>
 ZD x0 x0.fVals v4 (0:Int)>>=fun v6=>(match v6 with
 | (.inl v7)=>
 some (0:Int)
 | (.inr v8)=>
 some v8)
theorem ES(x0:Qf)(r:Int)(h:Gp x0=some r):PU 64 [QA x0] (eI r):=
 Pu2 (hs:=[(9,.c eI),(11,.split),(15,.c eI),(17,.split),(21,.n eI 21 none),(24,.c eI),(25,.split),(28,.n eI 28 none),(3000011,.l [] [1,27,28,29] [kk 1] [2] [] (YN x0))]) ((kC (sh:=eI) (Kc x0.fType) fun v0=>(kIf (c:=v0 !=(0:Int)) (kEr (enc:=eI) v0)
 (kC (sh:=eI) (Wa x0.fDims) fun v1=>(kIf (c:=v1 !=(0:Int)) (kEr (enc:=eI) v1)
 (kC (sh:=eI) (Hr x0.fDims) fun v2=>(kN _ (mLen (sh:=Qk) x0.fVals) fun v3=>(kIf (c:=v3 !=v2) (kEr (enc:=eI) (1:Int))
 (kN _ (mLen (sh:=Qk) x0.fVals) fun v4=>(kL2 (x0.fVals,v4) (hL:=(LC x0 x0.fVals v4 (0:Int))) (hA:=fun v5 v7=>(kEr (enc:=eI) (0:Int)))
 (hB:=fun v5 v8=>(kEr (enc:=eI) v8))))))))))) h)
def YM(s:((List Int)× (List Int)))(u:Int)(o:Unit ⊕ Bool):List Alt:=[⟨fun(x:Unit)=>(Sum.inl x:Unit ⊕ Bool)=o,.exit 0,fun x=>[.undef],fun x=>[]⟩,⟨fun(x:Bool)=>(Sum.inr x:Unit ⊕ Bool)=o,.ret,fun x=>[.bool x],fun x=>[]⟩]
def ZC(x0:List Int)(x1:List Int)(a4:Int)(a3:Int):Option (Unit ⊕ Bool):=
 if a3<a4 then
 ix x0 a3>>=fun v0=>
 ix x1 a3>>=fun v1=>
 if v0 !=v1 then
 some (.inr false)
 else
 ZC x0 x1 a4 (wr (a3+(1:Int)))
 else
 some (.inl ())
 partial_fixpoint
theorem LA(x0:List Int)(x1:List Int)(a3:Int)(a4:Int)(o:Unit ⊕ Bool)(h:ZC x0 x1 a3 a4=some o):LO 65 4 26 [0,1,12,13] [.sl 1 (List.map eI x0),.sl 1 (List.map eI x1),ii a3,ii a4] [] [4] (YM (x0,x1) a3 o):=
 ZC.partial_correctness x0 x1 a3 (fun a4 o=>LO 65 4 26 [0,1,12,13] [.sl 1 (List.map eI x0),.sl 1 (List.map eI x1),ii a3,ii a4] [] [4] (YM (x0,x1) a3 o))
 (fun ZC Q6v a4 o h=>
 Lp2 (hs:=[(14,.split),(18,.e eI),(22,.e eI),(24,.split)]) (kb:=[]) (kbx:=[]) ((kIfD (p:=a4<a3) (kIx (enc:=eI) (l:=x0) (k:=a4) fun v0=>(kIx (enc:=eI) (l:=x1) (k:=a4) fun v1=>(kIf (c:=v0 !=v1) (kX (alts:=YM (x0,x1) a3) (.inr false) (.next (.here _ rfl (.refl _) (.refl _))))
 (kM0 (alts:=YM (x0,x1) a3) (Q6v (wr (a4+(1:Int))))))))
 (kX (alts:=YM (x0,x1) a3) (.inl ()) (.here _ rfl (.refl _) (.refl _)))) h)) a4 o h
def UZ(x0:List Int)(x1:List Int):Option Bool:=
 some (List.length x0:Int)>>=fun v0=>
 some (List.length x1:Int)>>=fun v1=>
 if v0 !=v1 then
 some false
 else
 some (List.length x0:Int)>>=fun v2=>
 some v2>>=fun v3=>
 ZC x0 x1 v2 (0:Int)>>=fun v4=>(match v4 with
 | (.inl v5)=>
 some true
 | (.inr v6)=>
 some v6)
theorem Hs(x0:List Int)(x1:List Int)(r:Bool)(h:UZ x0 x1=some r):PU 65 [eLI x0,eLI x1] (eB r):=
 Pu2 (hs:=[(7,.n eI 7 none),(9,.n eI 9 none),(10,.split),(12,.n eI 12 none),(3000005,.l [] [0,1,12,13] [] [4] [] (YM (x0,x1)))]) ((kN _ (mLen (sh:=eI) x0) fun v0=>(kN _ (mLen (sh:=eI) x1) fun v1=>(kIf (c:=v0 !=v1) (kEr (enc:=eB) false)
 (kN _ (mLen (sh:=eI) x0) fun v2=>(kL2 v2 (hL:=(LA x0 x1 v2 (0:Int))) (hA:=fun v3 v5=>(kEr (enc:=eB) true))
 (hB:=fun v3 v6=>(kEr (enc:=eB) v6))))))) h)
def VF(x0:Qf):Option Qf:=
 Xe x0.fDims>>=fun v0=>
 Jd x0.fVals>>=fun v1=>
 some ((Qf.mk x0.fType v0 v1))>>=fun v2=>
 some v2
theorem Nb(x0:Qf)(r:Qf)(h:VF x0=some r):PU 40 [QA x0] (QA r):=
 Pu2 (hs:=[(7,.c eLI),(10,.c MM),(11,.n QA 11 none)]) ((kC (sh:=eLI) (Dx x0.fDims) fun v0=>(kC (sh:=MM) (Ln x0.fVals) fun v1=>(kW (sh:=QA) (Qf.mk x0.fType v0 v1) lr fun v2=>(kEr (enc:=QA) v2)))) h)
def Gl(x0:List Q3)(x1:Q9):Option (Qf×Int):=
 D5 x0 x1.fName>>=fun v0=>
 if v0.snd then
 Gp v0.fst>>=fun v1=>
 if v1 !=(0:Int) then
 some ((Qf.mk (Q6.mk (0:Int) (0:Int) (0:Int) (0:Int) (0:Int)) [] []))>>=fun v2=>
 some (v2,(1:Int))
 else
 if !(v0.fst.fType.fKind==x1.fType.fKind&& (v0.fst.fType.fBits==x1.fType.fBits&& (v0.fst.fType.fFrac==x1.fType.fFrac&& (v0.fst.fType.fRound==x1.fType.fRound&& (v0.fst.fType.fOver==x1.fType.fOver&&true))))) then
 some ((Qf.mk (Q6.mk (0:Int) (0:Int) (0:Int) (0:Int) (0:Int)) [] []))>>=fun v3=>
 some (v3,(10:Int))
 else
 UZ v0.fst.fDims x1.fDims>>=fun v4=>if v4 then
 VF v0.fst>>=fun v5=>
 some (v5,(0:Int))
 else
 some ((Qf.mk (Q6.mk (0:Int) (0:Int) (0:Int) (0:Int) (0:Int)) [] []))>>=fun v6=>
 some (v6,(15:Int))
 else
 some ((Qf.mk (Q6.mk (0:Int) (0:Int) (0:Int) (0:Int) (0:Int)) [] []))>>=fun v7=>
 some (v7,(9:Int))
theorem EG(x0:List Q3)(x1:Q9)(r:(Qf×Int))(h:Gl x0 x1=some r):PU 34 [X6 x0,Q5 x1] (Jq r):=
 Pu2 (hs:=[(12,.c ZH),(16,.split),(18,.n QA 18 none),(21,.c eI),(22,.split),(23,.n QA 23 none),(29,.split),(30,.n QA 30 none),(36,.cb),(38,.n QA 38 none),(40,.c QA)]) ((kC (sh:=ZH) (IL x0 x1.fName) fun v0=>(kIf (c:=v0.snd) (kC (sh:=eI) (ES v0.fst) fun v1=>(kIf (c:=v1 !=(0:Int)) (kW (sh:=QA) (Qf.mk (Q6.mk (0:Int) (0:Int) (0:Int) (0:Int) (0:Int)) [] []) (LeV.agg (.cons (LeV.refl (ii (0:Int))) (.cons (LeV.refl (ii (0:Int))) (.cons (LeV.refl (ii (0:Int))) (.cons (LeV.refl (ii (0:Int))) (.cons (LeV.refl (ii (0:Int))) (.cons (LeV.nil 1) (.cons (LeV.nil 2) .nil)))))))) fun v2=>(kEr (enc:=Jq) (v2,(1:Int))))
 (kIf (c:= !(v0.fst.fType.fKind==x1.fType.fKind&& (v0.fst.fType.fBits==x1.fType.fBits&& (v0.fst.fType.fFrac==x1.fType.fFrac&& (v0.fst.fType.fRound==x1.fType.fRound&& (v0.fst.fType.fOver==x1.fType.fOver&&true)))))) (kW (sh:=QA) (Qf.mk (Q6.mk (0:Int) (0:Int) (0:Int) (0:Int) (0:Int)) [] []) (LeV.agg (.cons (LeV.refl (ii (0:Int))) (.cons (LeV.refl (ii (0:Int))) (.cons (LeV.refl (ii (0:Int))) (.cons (LeV.refl (ii (0:Int))) (.cons (LeV.refl (ii (0:Int))) (.cons (LeV.nil 1) (.cons (LeV.nil 2) .nil)))))))) fun v3=>(kEr (enc:=Jq) (v3,(10:Int))))
 (kCb (Hs v0.fst.fDims x1.fDims) (kC (sh:=QA) (Nb v0.fst) fun v5=>(kEr (enc:=Jq) (v5,(0:Int))))
 (kW (sh:=QA) (Qf.mk (Q6.mk (0:Int) (0:Int) (0:Int) (0:Int) (0:Int)) [] []) (LeV.agg (.cons (LeV.refl (ii (0:Int))) (.cons (LeV.refl (ii (0:Int))) (.cons (LeV.refl (ii (0:Int))) (.cons (LeV.refl (ii (0:Int))) (.cons (LeV.refl (ii (0:Int))) (.cons (LeV.nil 1) (.cons (LeV.nil 2) .nil)))))))) fun v6=>(kEr (enc:=Jq) (v6,(15:Int))))))))
 (kW (sh:=QA) (Qf.mk (Q6.mk (0:Int) (0:Int) (0:Int) (0:Int) (0:Int)) [] []) (LeV.agg (.cons (LeV.refl (ii (0:Int))) (.cons (LeV.refl (ii (0:Int))) (.cons (LeV.refl (ii (0:Int))) (.cons (LeV.refl (ii (0:Int))) (.cons (LeV.refl (ii (0:Int))) (.cons (LeV.nil 1) (.cons (LeV.nil 2) .nil)))))))) fun v7=>(kEr (enc:=Jq) (v7,(9:Int)))))) h)
def Xm(s:List Q3)(u:((List Q9)×Int))(o:(List Q3) ⊕ ((List Q3)×Int)):List Alt:=[⟨fun(x:List Q3)=>(Sum.inl x:(List Q3) ⊕ ((List Q3)×Int))=o,.exit 0,fun x=>[.undef,.undef,.sl 8 (List.map Q8 x)],fun x=>[]⟩,⟨fun(x:((List Q3)×Int))=>(Sum.inr x:(List Q3) ⊕ ((List Q3)×Int))=o,.ret,fun x=>[.sl 8 (List.map Q8 x.1),ii x.2,.undef],fun x=>[]⟩]
def Zm(x1:List Q3)(x8:List Q3)(a5:List Q9)(a6:Int)(a3:Int):Option ((List Q3) ⊕ ((List Q3)×Int)):=
 if a3<a6 then
 ix a5 a3>>=fun v0=>
 Xe v0.fDims>>=fun v1=>
 WL v0.fType>>=fun v2=>
 Dw v0.fDims>>=fun v3=>
 Kh [v2] v3>>=fun v4=>
 if(List.map Qk v4).all immE=true then
 if v0.fUse==(1:Int) then
 Gl x1 v0>>=fun v5=>
 if v5.snd !=(0:Int) then
 some (.inr ([],v5.snd))
 else
 some ((Q3.mk v0.fName v5.fst))>>=fun v6=>
 if(x8.length+(1:Nat))*(104:Nat)≤(140737488355328:Nat)∧x8.length+(1:Nat)≤(9223372036854775807:Nat) then
 some (x8++[v6])>>=fun v7=>
 Zm x1 v7 a5 a6 (wr (a3+(1:Int)))
 else none
 else
 some ((Q3.mk v0.fName (Qf.mk v0.fType v1 v4)))>>=fun v8=>
 if(x8.length+(1:Nat))*(104:Nat)≤(140737488355328:Nat)∧x8.length+(1:Nat)≤(9223372036854775807:Nat) then
 some (x8++[v8])>>=fun v9=>
 Zm x1 v9 a5 a6 (wr (a3+(1:Int)))
 else none
 else none
 else
 some (.inl x8)
 partial_fixpoint
theorem Lk(x1:List Q3)(x8:List Q3)(a4:List Q9)(a5:Int)(a6:Int)(o:(List Q3) ⊕ ((List Q3)×Int))(h:Zm x1 x8 a4 a5 a6=some o):LO 12 6 63 [1,8,22,23,24] [.sl 8 (List.map Q8 x1),.ow 0 0 8 (List.length x8),.sl 8 (List.map Q5 a4),ii a5,ii a6] [.own 0 8 (List.map Q8 x8)] [4,5,8] (Xm x1 (a4,a5) o):=
 Zm.partial_correctness x1 a4 a5 (fun x8 a6 o=>LO 12 6 63 [1,8,22,23,24] [.sl 8 (List.map Q8 x1),.ow 0 0 8 (List.length x8),.sl 8 (List.map Q5 a4),ii a5,ii a6] [.own 0 8 (List.map Q8 x8)] [4,5,8] (Xm x1 (a4,a5) o))
 (fun Zm Q4w x8 a6 o h=>
 Lp2 (hs:=[(25,.split),(26,.e Q5),(32,.c eLI),(35,.c Qk),(39,.c eI),(44,.split),(48,.c Jq),(52,.split),(60,.z [{slot:=54,own:=8}] (some (.n Q8 60 (some .a)))),(40,.h [] Ki Kg),(58,.z [{slot:=57,path:=[6],fz:=true}] (some (.n Q8 58 none)))]) (kb:=[{slot:=8,own:=8}]) (kbx:=[{slot:=4,fz:=true},{slot:=8,fz:=true}]) ((kIfD (p:=a6<a5) (kIx (enc:=Q5) (l:=a4) (k:=a6) fun v0=>(kC (sh:=eLI) (Dx v0.fDims) fun v1=>(kC (sh:=Qk) (FN v0.fType) fun v2=>(kC (sh:=eI) (Hr v0.fDims) fun v3=>(kH (sh:=Ki) (bt:=Kg) (L6 [v2] v3) fun v4=>(kG (p:=(List.map Qk v4).all immE=true) (kIf (c:=v0.fUse==(1:Int)) (kC (sh:=Jq) (EG x1 v0) fun v5=>(kIf (c:=v5.snd !=(0:Int)) (kT (nM (sh:=Q8) x8) (kX (alts:=Xm x1 (a4,a5)) (.inr ([],v5.snd)) (.next (.here _ rfl (.cons (LeV.nil 8) (.cons (LeV.refl (ii v5.snd)) (.cons (LeV.undef (AV.sl (8:Nat) (List.map Q8 x8))) .nil))) (.refl _)))))
 (kW (sh:=Q8) (Q3.mk v0.fName v5.fst) lr fun v6=>(kA (q:=(x8.length+(1:Nat))*(104:Nat)≤(140737488355328:Nat)∧x8.length+(1:Nat)≤(9223372036854775807:Nat)) (sh:=Q8) (l:=x8) (kO (sh:=Q8) (x8++[v6]) (mA (sh:=Q8) x8 v6) (nA x8 v6) fun v7=>(kM0 (alts:=Xm x1 (a4,a5)) (Q4w v7 (wr (a6+(1:Int))))))))))
 (kT (nM (sh:=Qk) v4) (kW (sh:=Q8) (Q3.mk v0.fName (Qf.mk v0.fType v1 v4)) lr fun v8=>(kA (q:=(x8.length+(1:Nat))*(104:Nat)≤(140737488355328:Nat)∧x8.length+(1:Nat)≤(9223372036854775807:Nat)) (sh:=Q8) (l:=x8) (kO (sh:=Q8) (x8++[v8]) (mA (sh:=Q8) x8 v8) (nA x8 v8) fun v9=>(kM0 (alts:=Xm x1 (a4,a5)) (Q4w v9 (wr (a6+(1:Int))))))))))))))))
 (kT (nM (sh:=Q8) x8) (kX (alts:=Xm x1 (a4,a5)) (.inl x8) (.here _ rfl (.refl _) (.refl _))))) h)) x8 a6 o h
def UC(x0:Qd)(x1:List Q3):Option (List Q3×Int):=
 UD x0>>=fun v0=>
 if v0.snd !=(0:Int) then
 some ([],v0.snd)
 else
 some (List.length x0.fBufs:Int)>>=fun v1=>
 some (x0.fBufs,v1)>>=fun v2=>
 Zm x1 [] x0.fBufs v1 (0:Int)>>=fun v3=>(match v3 with
 | (.inl v4)=>
 some (v4,(0:Int))
 | (.inr v5)=>
 some (v5.fst,v5.snd))
theorem IW(x0:Qd)(x1:List Q3)(r:(List Q3×Int))(h:UC x0 x1=some r):PU 12 [Qp x0,X6 x1] (Yh r):=
 Pu2 (hs:=[(15,.c VY),(19,.split),(23,.n eI 23 none),(3000007,.l [] [1,8,22,23,24] [{slot:=8,own:=8}] [4,5,8] [{slot:=4,fz:=true},{slot:=8,fz:=true}] (Xm x1))]) ((kC (sh:=VY) (H8 x0) fun v0=>(kIf (c:=v0.snd !=(0:Int)) (kE (enc:=Yh) ([],v0.snd) (LeT.tup (.cons (LeT.nil 8) (.cons (LeT.refl (ii v0.snd)) .nil))))
 (kN _ (mLen (sh:=Q5) x0.fBufs) fun v1=>(kL2 (x0.fBufs,v1) (hL:=(Lk x1 [] x0.fBufs v1 (0:Int))) (hA:=fun v2 v4=>(kEr (enc:=Yh) (v4,(0:Int))))
 (hB:=fun v2 v5=>(kEr (enc:=Yh) (v5.fst,v5.snd))))))) h)
def JA(s:((List Q3)×Str))(u:Unit)(o:Qf ⊕ (Qf×Bool)):List Alt:=[⟨fun(x:Qf)=>(Sum.inl x:Qf ⊕ (Qf×Bool))=o,.exit 0,fun x=>[.ptr 0 0 0,.undef],fun x=>[.cells 0 (QA x).cells]⟩,⟨fun(x:(Qf×Bool))=>(Sum.inr x:Qf ⊕ (Qf×Bool))=o,.ret,fun x=>[.ptr 0 0 0,.bool x.2],fun x=>[.cells 0 (QA x.1).cells]⟩]
def YC(x0:List Q3)(x1:Str)(x4:Qf)(x6:Int):Option (Qf ⊕ (Qf×Bool)):=
 some (List.length x0:Int)>>=fun v0=>
 if x6<v0 then
 ix x0 x6>>=fun v1=>
 if v1.fName==x1 then
 ix x0 x6>>=fun v2=>
 some (.inr (v2.fTensor,true))
 else
 YC x0 x1 x4 (wr (x6+(1:Int)))
 else
 some (.inl x4)
 partial_fixpoint
theorem Tf(x0:List Q3)(x1:Str)(x4:Qf)(x6:Int)(o:Qf ⊕ (Qf×Bool))(h:YC x0 x1 x4 x6=some o):LO 36 2 26 [0,1,4,6] [.sl 8 (List.map Q8 x0),.str x1,.ptr 0 0 0,ii x6] [.cells 0 (QA x4).cells] [4,5] (JA (x0,x1) () o):=
 YC.partial_correctness x0 x1 x4 (fun x6 o=>LO 36 2 26 [0,1,4,6] [.sl 8 (List.map Q8 x0),.str x1,.ptr 0 0 0,ii x6] [.cells 0 (QA x4).cells] [4,5] (JA (x0,x1) () o))
 (fun YC Q61 x6 o h=>
 Lp2 (hs:=[(9,.n eI 9 none),(10,.split),(15,.e Q8),(19,.split),(22,.e Q8)]) (kb:=[kk 4]) (kbx:=[kk 4]) ((kN _ (mLen (sh:=Q8) x0) fun v0=>(kIfD (p:=x6<v0) (kIx (enc:=Q8) (l:=x0) (k:=x6) fun v1=>(kIf (c:=v1.fName==x1) (kIx (enc:=Q8) (l:=x0) (k:=x6) fun v2=>(kX (alts:=JA (x0,x1) ()) (.inr (v2.fTensor,true)) (.next (.here _ rfl (.refl _) (.refl _)))))
 (kM0 (alts:=JA (x0,x1) ()) (Q61 (wr (x6+(1:Int)))))))
 (kX (alts:=JA (x0,x1) ()) (.inl x4) (.here _ rfl (.refl _) (.refl _))))) h)) x6 o h
def Gz(x0:List Q3)(x1:Str):Option (Qf×Bool):=
 some ()>>=fun v0=>
 YC x0 x1 (Qf.mk (Q6.mk (0:Int) (0:Int) (0:Int) (0:Int) (0:Int)) [] []) (0:Int)>>=fun v1=>(match v1 with
 | (.inl v2)=>
 some ((Qf.mk (Q6.mk (0:Int) (0:Int) (0:Int) (0:Int) (0:Int)) [] []))>>=fun v3=>
 some (v3,false)
 | (.inr v4)=>
 some (v4.fst,v4.snd))
theorem MH(x0:List Q3)(x1:Str)(r:(Qf×Bool))(h:Gz x0 x1=some r):PU 36 [X6 x0,eS x1] (ZH r):=
 Pu2 (hs:=[(25,.n QA 25 none),(3000003,.l [] [0,1,4,6] [kk 4] [4,5] [kk 4] (JA (x0,x1)))]) ((kL2 () (hL:=(fun y hy=>Yg.le (.cons (LeV.refl (AV.sl (8:Nat) (List.map Q8 x0))) (.cons (LeV.refl (AV.str x1)) (.cons (LeV.refl (AV.ptr (0:Nat) (0:Nat) (0:Nat))) (.cons (LeV.refl (ii (0:Int))) .nil)))) (.cons (LeB.cells (0:Nat) (.cons (LeV.refl (ii (0:Int))) (.cons (LeV.refl (ii (0:Int))) (.cons (LeV.refl (ii (0:Int))) (.cons (LeV.refl (ii (0:Int))) (.cons (LeV.refl (ii (0:Int))) (.cons (LeV.nil 1) (.cons (LeV.nil 2) .nil)))))))) .nil) (Tf x0 x1 (Qf.mk (Q6.mk (0:Int) (0:Int) (0:Int) (0:Int) (0:Int)) [] []) (0:Int) y hy))) (hA:=fun v0 v2=>(kW (sh:=QA) (Qf.mk (Q6.mk (0:Int) (0:Int) (0:Int) (0:Int) (0:Int)) [] []) (LeV.agg (.cons (LeV.refl (ii (0:Int))) (.cons (LeV.refl (ii (0:Int))) (.cons (LeV.refl (ii (0:Int))) (.cons (LeV.refl (ii (0:Int))) (.cons (LeV.refl (ii (0:Int))) (.cons (LeV.nil 1) (.cons (LeV.nil 2) .nil)))))))) fun v3=>(kEr (enc:=ZH) (v3,false))))
 (hB:=fun v0 v4=>(kEr (enc:=ZH) (v4.fst,v4.snd)))) h)
def Vl(s:List Int)(u:Unit)(o:Unit ⊕ Int):List Alt:=[⟨fun(x:Unit)=>(Sum.inl x:Unit ⊕ Int)=o,.exit 2,fun x=>[.undef],fun x=>[]⟩,⟨fun(x:Int)=>(Sum.inr x:Unit ⊕ Int)=o,.ret,fun x=>[ii x],fun x=>[]⟩]
def XB(x0:List Int)(x4:Int)(x5:Int):Option (Unit ⊕ Int):=
 some (List.length x0:Int)>>=fun v0=>
 if x5<v0 then
 ix x0 x5>>=fun v1=>
 if x4≠(0:Int) then
 if wr (Int.tdiv (4096:Int) x4)<v1 then
 some (.inr (2:Int))
 else
 ix x0 x5>>=fun v2=>
 some (wr (x4*v2):Int)>>=fun v3=>
 XB x0 v3 (wr (x5+(1:Int)))
 else none
 else
 some (.inl ())
 partial_fixpoint
theorem EN(x0:List Int)(x4:Int)(x5:Int)(o:Unit ⊕ Int)(h:XB x0 x4 x5=some o):LO 88 10 39 [0,4,5] [.sl 1 (List.map eI x0),ii x4,ii x5] [] [2] (Vl x0 () o):=
 XB.partial_correctness x0 (fun x4 x5 o=>LO 88 10 39 [0,4,5] [.sl 1 (List.map eI x0),ii x4,ii x5] [] [2] (Vl x0 () o))
 (fun XB Q5j x4 x5 o h=>
 Lp2 (hs:=[(22,.n eI 22 none),(23,.split),(28,.e eI),(31,.s),(32,.split),(36,.e eI),(4,.n eI 4 none)]) (kb:=[]) (kbx:=[]) ((kN _ (mLen (sh:=eI) x0) fun v0=>(kIfD (p:=x5<v0) (kIx (enc:=eI) (l:=x0) (k:=x5) fun v1=>(kG (p:=x4≠(0:Int)) (kIfD (p:=wr (Int.tdiv (4096:Int) x4)<v1) (kX (alts:=Vl x0 ()) (.inr (2:Int)) (.next (.here _ rfl (.refl _) (.refl _))))
 (kIx (enc:=eI) (l:=x0) (k:=x5) fun v2=>(kN (wr (x4*v2)) rfl fun v3=>(kM0 (alts:=Vl x0 ()) (Q5j v3 (wr (x5+(1:Int))))))))))
 (kX (alts:=Vl x0 ()) (.inl ()) (.here _ rfl (.refl _) (.refl _))))) h)) x4 x5 o h
def VL(s:List Int)(u:Unit)(o:Unit ⊕ Int):List Alt:=[⟨fun(x:Unit)=>(Sum.inl x:Unit ⊕ Int)=o,.exit 0,fun x=>[.sl 1 (List.map eI s),.undef],fun x=>[]⟩,⟨fun(x:Int)=>(Sum.inr x:Unit ⊕ Int)=o,.ret,fun x=>[.sl 1 (List.map eI s),ii x],fun x=>[]⟩]
def Y5(x0:List Int)(x3:Int):Option (Unit ⊕ Int):=
 some (List.length x0:Int)>>=fun v0=>
 if x3<v0 then
 ix x0 x3>>=fun v1=>
 if v1< (1:Int) then
 some (.inr (1:Int))
 else
 Y5 x0 (wr (x3+(1:Int)))
 else
 some (.inl ())
 partial_fixpoint
theorem Rm(x0:List Int)(x3:Int)(o:Unit ⊕ Int)(h:Y5 x0 x3=some o):LO 88 4 39 [0,3] [.sl 1 (List.map eI x0),ii x3] [] [0,2] (VL x0 () o):=
 Y5.partial_correctness x0 (fun x3 o=>LO 88 4 39 [0,3] [.sl 1 (List.map eI x0),ii x3] [] [0,2] (VL x0 () o))
 (fun Y5 Q5k x3 o h=>
 Lp2 (hs:=[(11,.n eI 11 none),(12,.split),(17,.e eI),(19,.split)]) (kb:=[]) (kbx:=[]) ((kN _ (mLen (sh:=eI) x0) fun v0=>(kIfD (p:=x3<v0) (kIx (enc:=eI) (l:=x0) (k:=x3) fun v1=>(kIfD (p:=v1< (1:Int)) (kX (alts:=VL x0 ()) (.inr (1:Int)) (.next (.here _ rfl (.refl _) (.refl _))))
 (kM0 (alts:=VL x0 ()) (Q5k (wr (x3+(1:Int)))))))
 (kX (alts:=VL x0 ()) (.inl ()) (.here _ rfl (.refl _) (.refl _))))) h)) x3 o h
def CT(x0:List Int):Option Int:=
 some (List.length x0:Int)>>=fun v0=>
 if(6:Int)<v0 then
 some (2:Int)
 else
 some ()>>=fun v1=>
 Y5 x0 (0:Int)>>=fun v2=>(match v2 with
 | (.inl v3)=>
 some ((1:Int):Int)>>=fun v4=>
 some ()>>=fun v5=>
 XB x0 v4 (0:Int)>>=fun v6=>(match v6 with
 | (.inl v7)=>
 some (0:Int)
 | (.inr v8)=>
 some v8)
 | (.inr v9)=>
 some v9)
theorem AP(x0:List Int)(r:Int)(h:CT x0=some r):PU 88 [eLI x0] (eI r):=
 Pu2 (hs:=[(7,.n eI 7 none),(8,.split),(4,.n eI 4 none),(3000011,.l [] [0,4,5] [] [2] [] (Vl x0)),(3000005,.l [] [0,3] [] [0,2] [] (VL x0))]) ((kN _ (mLen (sh:=eI) x0) fun v0=>(kIfD (p:=(6:Int)<v0) (kEr (enc:=eI) (2:Int))
 (kL2 () (hL:=(Rm x0 (0:Int))) (hA:=fun v1 v3=>(kN (1:Int) rfl fun v4=>(kL2 () (hL:=(EN x0 v4 (0:Int))) (hA:=fun v5 v7=>(kEr (enc:=eI) (0:Int)))
 (hB:=fun v5 v8=>(kEr (enc:=eI) v8)))))
 (hB:=fun v1 v9=>(kEr (enc:=eI) v9))))) h)
def UT(s:List Int)(u:Unit)(o:Int):List Alt:=[⟨fun(x:Int)=>x=o,.exit 0,fun x=>[ii x],fun x=>[]⟩]
def Km(x0:List Int)(x3:Int)(x4:Int):Option Int:=
 some (List.length x0:Int)>>=fun v0=>
 if x4<v0 then
 ix x0 x4>>=fun v1=>
 some (wr (x3*v1):Int)>>=fun v2=>
 Km x0 v2 (wr (x4+(1:Int)))
 else
 some x3
 partial_fixpoint
theorem Te(x0:List Int)(x3:Int)(x4:Int)(o:Int)(h:Km x0 x3 x4=some o):LO 89 3 18 [0,3,4] [.sl 1 (List.map eI x0),ii x3,ii x4] [] [3] (UT x0 () o):=
 Km.partial_correctness x0 (fun x3 x4 o=>LO 89 3 18 [0,3,4] [.sl 1 (List.map eI x0),ii x3,ii x4] [] [3] (UT x0 () o))
 (fun Km Q5l x3 x4 o h=>
 Lp2 (hs:=[(7,.n eI 7 none),(8,.split),(14,.e eI),(3,.n eI 3 none)]) (kb:=[]) (kbx:=[]) ((kN _ (mLen (sh:=eI) x0) fun v0=>(kIfD (p:=x4<v0) (kIx (enc:=eI) (l:=x0) (k:=x4) fun v1=>(kN (wr (x3*v1)) rfl fun v2=>(kM0 (alts:=UT x0 ()) (Q5l v2 (wr (x4+(1:Int)))))))
 (kX (alts:=UT x0 ()) x3 (.here _ rfl (.refl _) (.refl _))))) h)) x3 x4 o h
def WA(x0:List Int):Option Int:=
 some ((1:Int):Int)>>=fun v0=>
 some ()>>=fun v1=>
 Km x0 v0 (0:Int)>>=fun v3=>
 some v3
theorem FB(x0:List Int)(r:Int)(h:WA x0=some r):PU 89 [eLI x0] (eI r):=
 Pu2 (hs:=[(3,.n eI 3 none),(3000004,.l [] [0,3,4] [] [3] [] (UT x0))]) ((kN (1:Int) rfl fun v0=>(kL1 () (Te x0 v0 (0:Int)) fun v1 v3=>(kEr (enc:=eI) v3))) h)
def Kt(s:Qf)(u:Unit)(o:Unit ⊕ Int):List Alt:=[⟨fun(x:Unit)=>(Sum.inl x:Unit ⊕ Int)=o,.exit 0,fun x=>[.undef],fun x=>[]⟩,⟨fun(x:Int)=>(Sum.inr x:Unit ⊕ Int)=o,.ret,fun x=>[ii x],fun x=>[]⟩]
def X0(x1:Qf)(x4:Int):Option (Unit ⊕ Int):=
 some (List.length x1.fVals:Int)>>=fun v0=>
 if x4<v0 then
 ix x1.fVals x4>>=fun v1=>
 Wq x1.fType v1>>=fun v2=>if v2 then
 X0 x1 (wr (x4+(1:Int)))
 else
 some (.inr (1:Int))
 else
 some (.inl ())
 partial_fixpoint
theorem Ha(x1:Qf)(x4:Int)(o:Unit ⊕ Int)(h:X0 x1 x4=some o):LO 66 9 38 [1,4] [.ptr 0 0 0,ii x4] [.cells 0 (QA x1).cells] [2] (Kt x1 () o):=
 X0.partial_correctness x1 (fun x4 o=>LO 66 9 38 [1,4] [.ptr 0 0 0,ii x4] [.cells 0 (QA x1).cells] [2] (Kt x1 () o))
 (fun X0 Q5m x4 o h=>
 Lp2 (hs:=[(25,.n eI 25 none),(26,.split),(34,.e Qk),(36,.cb)]) (kb:=[kk 1]) (kbx:=[]) ((kN _ (mLen (sh:=Qk) x1.fVals) fun v0=>(kIfD (p:=x4<v0) (kIx (enc:=Qk) (l:=x1.fVals) (k:=x4) fun v1=>(kCb (T3 x1.fType v1) (kM0 (alts:=Kt x1 ()) (Q5m (wr (x4+(1:Int)))))
 (kX (alts:=Kt x1 ()) (.inr (1:Int)) (.next (.here _ rfl (.refl _) (.refl _))))))
 (kX (alts:=Kt x1 ()) (.inl ()) (.here _ rfl (.refl _) (.refl _))))) h)) x4 o h
def GP(x0:Qf):Option Int:=
 Ug x0.fType>>=fun v0=>if v0 then
 CT x0.fDims>>=fun v1=>
 if v1 !=(0:Int) then
 some v1
 else
 WA x0.fDims>>=fun v2=>
 some (List.length x0.fVals:Int)>>=fun v3=>
 if v3 !=v2 then
 some (1:Int)
 else
 some ()>>=fun v4=>
 X0 x0 (0:Int)>>=fun v5=>(match v5 with
 | (.inl v6)=>
 some (0:Int)
 | (.inr v7)=>
 some v7)
 else
 some (10:Int)
theorem Rn(x0:Qf)(r:Int)(h:GP x0=some r):PU 66 [QA x0] (eI r):=
 Pu2 (hs:=[(7,.cb),(11,.c eI),(13,.split),(17,.n eI 17 none),(20,.c eI),(21,.split),(3000010,.l [] [1,4] [kk 1] [2] [] (Kt x0))]) ((kCb (CB x0.fType) (kC (sh:=eI) (AP x0.fDims) fun v1=>(kIf (c:=v1 !=(0:Int)) (kEr (enc:=eI) v1)
 (kC (sh:=eI) (FB x0.fDims) fun v2=>(kN _ (mLen (sh:=Qk) x0.fVals) fun v3=>(kIf (c:=v3 !=v2) (kEr (enc:=eI) (1:Int))
 (kL2 () (hL:=(Ha x0 (0:Int))) (hA:=fun v4 v6=>(kEr (enc:=eI) (0:Int)))
 (hB:=fun v4 v7=>(kEr (enc:=eI) v7))))))))
 (kEr (enc:=eI) (10:Int))) h)
def Uk(s:((List Int)× (List Int)))(u:Unit)(o:Unit ⊕ Bool):List Alt:=[⟨fun(x:Unit)=>(Sum.inl x:Unit ⊕ Bool)=o,.exit 0,fun x=>[.undef],fun x=>[]⟩,⟨fun(x:Bool)=>(Sum.inr x:Unit ⊕ Bool)=o,.ret,fun x=>[.bool x],fun x=>[]⟩]
def K4(x0:List Int)(x1:List Int)(x5:Int):Option (Unit ⊕ Bool):=
 some (List.length x0:Int)>>=fun v0=>
 if x5<v0 then
 ix x0 x5>>=fun v1=>
 ix x1 x5>>=fun v2=>
 if v1 !=v2 then
 some (.inr false)
 else
 K4 x0 x1 (wr (x5+(1:Int)))
 else
 some (.inl ())
 partial_fixpoint
theorem Si(x0:List Int)(x1:List Int)(x5:Int)(o:Unit ⊕ Bool)(h:K4 x0 x1 x5=some o):LO 67 4 26 [0,1,5] [.sl 1 (List.map eI x0),.sl 1 (List.map eI x1),ii x5] [] [4] (Uk (x0,x1) () o):=
 K4.partial_correctness x0 x1 (fun x5 o=>LO 67 4 26 [0,1,5] [.sl 1 (List.map eI x0),.sl 1 (List.map eI x1),ii x5] [] [4] (Uk (x0,x1) () o))
 (fun K4 Q4b x5 o h=>
 Lp2 (hs:=[(13,.n eI 13 none),(14,.split),(19,.e eI),(23,.e eI),(25,.split)]) (kb:=[]) (kbx:=[]) ((kN _ (mLen (sh:=eI) x0) fun v0=>(kIfD (p:=x5<v0) (kIx (enc:=eI) (l:=x0) (k:=x5) fun v1=>(kIx (enc:=eI) (l:=x1) (k:=x5) fun v2=>(kIf (c:=v1 !=v2) (kX (alts:=Uk (x0,x1) ()) (.inr false) (.next (.here _ rfl (.refl _) (.refl _))))
 (kM0 (alts:=Uk (x0,x1) ()) (Q4b (wr (x5+(1:Int))))))))
 (kX (alts:=Uk (x0,x1) ()) (.inl ()) (.here _ rfl (.refl _) (.refl _))))) h)) x5 o h
def Cy(x0:List Int)(x1:List Int):Option Bool:=
 some (List.length x0:Int)>>=fun v0=>
 some (List.length x1:Int)>>=fun v1=>
 if v0 !=v1 then
 some false
 else
 some ()>>=fun v2=>
 K4 x0 x1 (0:Int)>>=fun v3=>(match v3 with
 | (.inl v4)=>
 some true
 | (.inr v5)=>
 some v5)
theorem EW(x0:List Int)(x1:List Int)(r:Bool)(h:Cy x0 x1=some r):PU 67 [eLI x0,eLI x1] (eB r):=
 Pu2 (hs:=[(7,.n eI 7 none),(9,.n eI 9 none),(10,.split),(3000005,.l [] [0,1,5] [] [4] [] (Uk (x0,x1)))]) ((kN _ (mLen (sh:=eI) x0) fun v0=>(kN _ (mLen (sh:=eI) x1) fun v1=>(kIf (c:=v0 !=v1) (kEr (enc:=eB) false)
 (kL2 () (hL:=(Si x0 x1 (0:Int))) (hA:=fun v2 v4=>(kEr (enc:=eB) true))
 (hB:=fun v2 v5=>(kEr (enc:=eB) v5)))))) h)
def WD(x0:List Q3)(x1:Str)(x2:Q6)(x3:List Int):Option Int:=
 Gz x0 x1>>=fun v0=>
 if v0.snd then
 GP v0.fst>>=fun v1=>
 if v1 !=(0:Int) then
 some (1:Int)
 else
 if !(v0.fst.fType.fKind==x2.fKind&& (v0.fst.fType.fBits==x2.fBits&& (v0.fst.fType.fFrac==x2.fFrac&& (v0.fst.fType.fRound==x2.fRound&& (v0.fst.fType.fOver==x2.fOver&&true))))) then
 some (10:Int)
 else
 Cy v0.fst.fDims x3>>=fun v2=>if v2 then
 some (0:Int)
 else
 some (15:Int)
 else
 some (9:Int)
theorem FG(x0:List Q3)(x1:Str)(x2:Q6)(x3:List Int)(r:Int)(h:WD x0 x1 x2 x3=some r):PU 35 [X6 x0,eS x1,Qc x2,eLI x3] (eI r):=
 Pu2 (hs:=[(14,.c ZH),(18,.split),(22,.c eI),(23,.split),(28,.split),(33,.cb)]) ((kC (sh:=ZH) (MH x0 x1) fun v0=>(kIf (c:=v0.snd) (kC (sh:=eI) (Rn v0.fst) fun v1=>(kIf (c:=v1 !=(0:Int)) (kEr (enc:=eI) (1:Int))
 (kIf (c:= !(v0.fst.fType.fKind==x2.fKind&& (v0.fst.fType.fBits==x2.fBits&& (v0.fst.fType.fFrac==x2.fFrac&& (v0.fst.fType.fRound==x2.fRound&& (v0.fst.fType.fOver==x2.fOver&&true)))))) (kEr (enc:=eI) (10:Int))
 (kCb (EW v0.fst.fDims x3) (kEr (enc:=eI) (0:Int))
 (kEr (enc:=eI) (15:Int))))))
 (kEr (enc:=eI) (9:Int)))) h)
def Wz(x0:Q6):Option gVal:=
 Ug x0>>=fun v0=>if v0 then
 some ((gVal.mk (0:Int) (1:Int)))>>=fun v1=>
 some v1
 else
 some ((gVal.mk (0:Int) (0:Int)))>>=fun v2=>
 some v2
theorem FA(x0:Q6)(r:gVal)(h:Wz x0=some r):PU 37 [Qc x0] (Qk r):=
 Pu2 (hs:=[(4,.cb),(6,.n Qk 6 none),(7,.n Qk 7 none)]) ((kCb (CB x0) (kW (sh:=Qk) (gVal.mk (0:Int) (1:Int)) lr fun v1=>(kEr (enc:=Qk) v1))
 (kW (sh:=Qk) (gVal.mk (0:Int) (0:Int)) lr fun v2=>(kEr (enc:=Qk) v2))) h)
def Kz(s:((List Q3)×Qd))(u:((List Q3)×Int×Q9×Qf))(o:Int):List Alt:=[⟨fun(x:Int)=>x=o,.exit 2,fun x=>[.sl 8 (List.map Q8 s.1),.ptr 0 0 0,.ow 1 0 8 (List.length u.1),ii u.2.1,.ptr 2 0 0,.ptr 3 0 0,ii x],fun x=>[.cells 0 (Qp s.2).cells,.own 0 8 (List.map Q8 u.1),.cells 0 (Q5 u.2.2.1).cells,.cells 0 [ii u.2.2.2.fType.fKind,ii u.2.2.2.fType.fBits,ii u.2.2.2.fType.fFrac,ii u.2.2.2.fType.fRound,ii u.2.2.2.fType.fOver,.sl 1 (List.map eI u.2.2.2.fDims),.ow 4 0 2 (List.length u.2.2.2.fVals)],.own 0 2 (List.map Qk u.2.2.2.fVals)]⟩]
def Zz(a3:Q9)(a5:Int)(a4:Int):Option Int:=
 some (List.length a3.fDims:Int)>>=fun v0=>
 if a4<v0 then
 ix a3.fDims a4>>=fun v1=>
 some (wr (a5*v1):Int)>>=fun v2=>
 Zz a3 v2 (wr (a4+(1:Int)))
 else
 some a5
 partial_fixpoint
theorem Ll(x1:List Q3)(x2:Qd)(x8:List Q3)(x9:Int)(a4:Q9)(a3:Qf)(a6:Int)(a5:Int)(o:Int)(h:Zz a4 a6 a5=some o):LO 13 18 106 [1,2,8,9,10,14,15,16] [.sl 8 (List.map Q8 x1),.ptr 0 0 0,.ow 1 0 8 (List.length x8),ii x9,.ptr 2 0 0,.ptr 3 0 0,ii a6,ii a5] [.cells 0 (Qp x2).cells,.own 0 8 (List.map Q8 x8),.cells 0 (Q5 a4).cells,.cells 0 [ii a3.fType.fKind,ii a3.fType.fBits,ii a3.fType.fFrac,ii a3.fType.fRound,ii a3.fType.fOver,.sl 1 (List.map eI a3.fDims),.ow 4 0 2 (List.length a3.fVals)],.own 0 2 (List.map Qk a3.fVals)] [1,2,8,9,10,14,15] (Kz (x1,x2) (x8,x9,a4,a3) o):=
 Zz.partial_correctness a4 (fun a6 a5 o=>∀(x1:List Q3) (x2:Qd) (x8:List Q3) (x9:Int) (a3:Qf),LO 13 18 106 [1,2,8,9,10,14,15,16] [.sl 8 (List.map Q8 x1),.ptr 0 0 0,.ow 1 0 8 (List.length x8),ii x9,.ptr 2 0 0,.ptr 3 0 0,ii a6,ii a5] [.cells 0 (Qp x2).cells,.own 0 8 (List.map Q8 x8),.cells 0 (Q5 a4).cells,.cells 0 [ii a3.fType.fKind,ii a3.fType.fBits,ii a3.fType.fFrac,ii a3.fType.fRound,ii a3.fType.fOver,.sl 1 (List.map eI a3.fDims),.ow 4 0 2 (List.length a3.fVals)],.own 0 2 (List.map Qk a3.fVals)] [1,2,8,9,10,14,15] (Kz (x1,x2) (x8,x9,a4,a3) o))
 (fun Zz Q6j a6 a5 o h x1 x2 x8 x9 a3=>
 Lp2 (hs:=[(74,.n eI 74 none),(75,.split),(82,.e eI),(15,.n eI 15 none)]) (kb:=[kk 2,{slot:=8,own:=8},kk 10,kk 14,{slot:=14,path:=[6],own:=2}]) (kbx:=[kk 2,{slot:=8,own:=8},kk 10,kk 14,{slot:=14,path:=[6],own:=2}]) ((kN _ (mLen (sh:=eI) a4.fDims) fun v0=>(kIfD (p:=a5<v0) (kIx (enc:=eI) (l:=a4.fDims) (k:=a5) fun v1=>(kN (wr (a6*v1)) rfl fun v2=>(kM0 (alts:=Kz (x1,x2) (x8,x9,a4,a3)) (fun y hy=>Q6j v2 (wr (a5+(1:Int))) y hy x1 x2 x8 x9 a3))))
 (kX (alts:=Kz (x1,x2) (x8,x9,a4,a3)) a6 (.here _ rfl (.refl _) (.refl _))))) h)) a6 a5 o h x1 x2 x8 x9 a3
def KA(s:((List Q3)×Qd))(u:((List Q3)×Int×Q9×Int))(o:Qf):List Alt:=[⟨fun(x:Qf)=>x=o,.exit 4,fun x=>[.sl 8 (List.map Q8 s.1),.ptr 0 0 0,.ow 1 0 8 (List.length u.1),ii u.2.1,.ptr 2 0 0,.ptr 3 0 0],fun x=>[.cells 0 (Qp s.2).cells,.own 0 8 (List.map Q8 u.1),.cells 0 (Q5 u.2.2.1).cells,.cells 0 [ii x.fType.fKind,ii x.fType.fBits,ii x.fType.fFrac,ii x.fType.fRound,ii x.fType.fOver,.sl 1 (List.map eI x.fDims),.ow 4 0 2 (List.length x.fVals)],.own 0 2 (List.map Qk x.fVals)]⟩]
def ZU(a4:Q9)(a3:Qf)(a5:Int)(a6:Int):Option Qf:=
 if a6<a5 then
 Wz a4.fType>>=fun v0=>
 if(a3.fVals.length+(1:Nat))*(16:Nat)≤(140737488355328:Nat)∧a3.fVals.length+(1:Nat)≤(9223372036854775807:Nat) then
 some (a3.fVals++[v0])>>=fun v1=>
 ZU a4 (Qf.mk a3.fType a3.fDims v1) a5 (wr (a6+(1:Int)))
 else none
 else
 some a3
 partial_fixpoint
theorem Lm(x1:List Q3)(x2:Qd)(x8:List Q3)(x9:Int)(a4:Q9)(a3:Qf)(a5:Int)(a6:Int)(o:Qf)(h:ZU a4 a3 a5 a6=some o):LO 13 22 106 [1,2,8,9,10,14,15,17] [.sl 8 (List.map Q8 x1),.ptr 0 0 0,.ow 1 0 8 (List.length x8),ii x9,.ptr 2 0 0,.ptr 3 0 0,ii a5,ii a6] [.cells 0 (Qp x2).cells,.own 0 8 (List.map Q8 x8),.cells 0 (Q5 a4).cells,.cells 0 [ii a3.fType.fKind,ii a3.fType.fBits,ii a3.fType.fFrac,ii a3.fType.fRound,ii a3.fType.fOver,.sl 1 (List.map eI a3.fDims),.ow 4 0 2 (List.length a3.fVals)],.own 0 2 (List.map Qk a3.fVals)] [1,2,8,9,10,14] (KA (x1,x2) (x8,x9,a4,a5) o):=
 ZU.partial_correctness a4 a5 (fun a3 a6 o=>∀(x1:List Q3) (x2:Qd) (x8:List Q3) (x9:Int),LO 13 22 106 [1,2,8,9,10,14,15,17] [.sl 8 (List.map Q8 x1),.ptr 0 0 0,.ow 1 0 8 (List.length x8),ii x9,.ptr 2 0 0,.ptr 3 0 0,ii a5,ii a6] [.cells 0 (Qp x2).cells,.own 0 8 (List.map Q8 x8),.cells 0 (Q5 a4).cells,.cells 0 [ii a3.fType.fKind,ii a3.fType.fBits,ii a3.fType.fFrac,ii a3.fType.fRound,ii a3.fType.fOver,.sl 1 (List.map eI a3.fDims),.ow 4 0 2 (List.length a3.fVals)],.own 0 2 (List.map Qk a3.fVals)] [1,2,8,9,10,14] (KA (x1,x2) (x8,x9,a4,a5) o))
 (fun ZU Q6k a3 a6 o h x1 x2 x8 x9=>
 Lp2 (hs:=[(87,.split),(94,.c Qk),(96,.z [{slot:=91,own:=2}] (some (.n Qk 96 (some .a))))]) (kb:=[kk 2,{slot:=8,own:=8},kk 10,kk 14,{slot:=14,path:=[6],own:=2}]) (kbx:=[kk 2,{slot:=8,own:=8},kk 10,kk 14,{slot:=14,path:=[6],own:=2}]) ((kIfD (p:=a6<a5) (kC (sh:=Qk) (FA a4.fType) fun v0=>(kA (q:=(a3.fVals.length+(1:Nat))*(16:Nat)≤(140737488355328:Nat)∧a3.fVals.length+(1:Nat)≤(9223372036854775807:Nat)) (sh:=Qk) (l:=a3.fVals) (kO (sh:=Qk) (a3.fVals++[v0]) (mA (sh:=Qk) a3.fVals v0) (nA a3.fVals v0) fun v1=>(kM0 (alts:=KA (x1,x2) (x8,x9,a4,a5)) (fun y hy=>Q6k (Qf.mk a3.fType a3.fDims v1) (wr (a6+(1:Int))) y hy x1 x2 x8 x9)))))
 (kX (alts:=KA (x1,x2) (x8,x9,a4,a5)) a3 (.here _ rfl (.refl _) (.refl _)))) h)) a3 a6 o h x1 x2 x8 x9
def XM(s:((List Q3)×Qd))(u:Unit)(o:(List Q3) ⊕ ((List Q3)×Int)):List Alt:=[⟨fun(x:List Q3)=>(Sum.inl x:(List Q3) ⊕ ((List Q3)×Int))=o,.exit 0,fun x=>[.undef,.undef,.sl 8 (List.map Q8 x)],fun x=>[]⟩,⟨fun(x:((List Q3)×Int))=>(Sum.inr x:(List Q3) ⊕ ((List Q3)×Int))=o,.ret,fun x=>[.sl 8 (List.map Q8 x.1),ii x.2,.undef],fun x=>[]⟩]
def Zr(x1:List Q3)(x2:Qd)(x8:List Q3)(x9:Int):Option ((List Q3) ⊕ ((List Q3)×Int)):=
 some (List.length x2.fBufs:Int)>>=fun v0=>
 if x9<v0 then
 ix x2.fBufs x9>>=fun v1=>
 if v1.fUse==(1:Int) then
 WD x1 v1.fName v1.fType v1.fDims>>=fun v2=>
 if v2 !=(0:Int) then
 some (.inr ([],v2))
 else
 Gz x1 v1.fName>>=fun v3=>
 some ((Q3.mk v1.fName v3.fst))>>=fun v4=>
 if(x8.length+(1:Nat))*(104:Nat)≤(140737488355328:Nat)∧x8.length+(1:Nat)≤(9223372036854775807:Nat) then
 some (x8++[v4])>>=fun v5=>
 Zr x1 x2 v5 (wr (x9+(1:Int)))
 else none
 else
 some ((1:Int):Int)>>=fun v6=>
 some (x8,x9,v1,(Qf.mk v1.fType v1.fDims []))>>=fun v7=>
 Zz v1 v6 (0:Int)>>=fun v9=>
 some (v7.fst,v7.snd.fst,v7.snd.snd.fst,v9)>>=fun a3=>
 ZU v7.snd.snd.fst v7.snd.snd.snd v9 (0:Int)>>=fun aa=>
 some ((Q3.mk a3.snd.snd.fst.fName aa))>>=fun ab=>
 if(a3.fst.length+(1:Nat))*(104:Nat)≤(140737488355328:Nat)∧a3.fst.length+(1:Nat)≤(9223372036854775807:Nat) then
 some (a3.fst++[ab])>>=fun ac=>
 Zr x1 x2 ac (wr (a3.snd.fst+(1:Int)))
 else none
 else
 some (.inl x8)
 partial_fixpoint
theorem Lz(x1:List Q3)(x2:Qd)(x8:List Q3)(x9:Int)(o:(List Q3) ⊕ ((List Q3)×Int))(h:Zr x1 x2 x8 x9=some o):LO 13 6 106 [1,2,8,9] [.sl 8 (List.map Q8 x1),.ptr 0 0 0,.ow 1 0 8 (List.length x8),ii x9] [.cells 0 (Qp x2).cells,.own 0 8 (List.map Q8 x8)] [4,5,8] (XM (x1,x2) () o):=
 Zr.partial_correctness x1 x2 (fun x8 x9 o=>LO 13 6 106 [1,2,8,9] [.sl 8 (List.map Q8 x1),.ptr 0 0 0,.ow 1 0 8 (List.length x8),ii x9] [.cells 0 (Qp x2).cells,.own 0 8 (List.map Q8 x8)] [4,5,8] (XM (x1,x2) () o))
 (fun Zr Q6l x8 x9 o h=>
 Lp2 (hs:=[(29,.n eI 29 none),(30,.split),(36,.e Q5),(40,.split),(48,.c eI),(50,.split),(56,.c ZH),(63,.n Q8 63 none),(65,.z [{slot:=59,own:=8}] (some (.n Q8 65 (some .a)))),(15,.n eI 15 none),(102,.z [{slot:=101,path:=[6],fz:=true}] (some (.n Q8 102 none))),(104,.z [{slot:=98,own:=8}] (some (.n Q8 104 (some .a)))),(3000023,.l [] [1,2,8,9,10,14,15,17] [kk 2,{slot:=8,own:=8},kk 10,kk 14,{slot:=14,path:=[6],own:=2}] [1,2,8,9,10,14] [kk 2,{slot:=8,own:=8},kk 10,kk 14,{slot:=14,path:=[6],own:=2}] (KA (x1,x2))),(3000019,.l [] [1,2,8,9,10,14,15,16] [kk 2,{slot:=8,own:=8},kk 10,kk 14,{slot:=14,path:=[6],own:=2}] [1,2,8,9,10,14,15] [kk 2,{slot:=8,own:=8},kk 10,kk 14,{slot:=14,path:=[6],own:=2}] (Kz (x1,x2)))]) (kb:=[kk 2,{slot:=8,own:=8}]) (kbx:=[{slot:=4,fz:=true},{slot:=8,fz:=true}]) ((kN _ (mLen (sh:=Q5) x2.fBufs) fun v0=>(kIfD (p:=x9<v0) (kIx (enc:=Q5) (l:=x2.fBufs) (k:=x9) fun v1=>(kIf (c:=v1.fUse==(1:Int)) (kC (sh:=eI) (FG x1 v1.fName v1.fType v1.fDims) fun v2=>(kIf (c:=v2 !=(0:Int)) (kT (nM (sh:=Q8) x8) (kX (alts:=XM (x1,x2) ()) (.inr ([],v2)) (.next (.here _ rfl (.cons (LeV.nil 8) (.cons (LeV.refl (ii v2)) (.cons (LeV.undef (AV.sl (8:Nat) (List.map Q8 x8))) .nil))) (.refl _)))))
 (kC (sh:=ZH) (MH x1 v1.fName) fun v3=>(kW (sh:=Q8) (Q3.mk v1.fName v3.fst) lr fun v4=>(kA (q:=(x8.length+(1:Nat))*(104:Nat)≤(140737488355328:Nat)∧x8.length+(1:Nat)≤(9223372036854775807:Nat)) (sh:=Q8) (l:=x8) (kO (sh:=Q8) (x8++[v4]) (mA (sh:=Q8) x8 v4) (nA x8 v4) fun v5=>(kM0 (alts:=XM (x1,x2) ()) (Q6l v5 (wr (x9+(1:Int)))))))))))
 (kN (1:Int) rfl fun v6=>(kL1 (x8,x9,v1,(Qf.mk v1.fType v1.fDims [])) (Ll x1 x2 x8 x9 v1 (Qf.mk v1.fType v1.fDims []) v6 (0:Int)) fun v7 v9=>(kL1 (v7.fst,v7.snd.fst,v7.snd.snd.fst,v9) (Lm x1 x2 v7.fst v7.snd.fst v7.snd.snd.fst v7.snd.snd.snd v9 (0:Int)) fun a4 ab=>(kT (nM (sh:=Qk) ab.fVals) (kW (sh:=Q8) (Q3.mk a4.snd.snd.fst.fName ab) lr fun a9=>(kA (q:=(a4.fst.length+(1:Nat))*(104:Nat)≤(140737488355328:Nat)∧a4.fst.length+(1:Nat)≤(9223372036854775807:Nat)) (sh:=Q8) (l:=a4.fst) (kO (sh:=Q8) (a4.fst++[a9]) (mA (sh:=Q8) a4.fst a9) (nA a4.fst a9) fun ac=>(kM0 (alts:=XM (x1,x2) ()) (Q6l ac (wr (a4.snd.fst+(1:Int))))))))))))))
 (kT (nM (sh:=Q8) x8) (kX (alts:=XM (x1,x2) ()) (.inl x8) (.here _ rfl (.refl _) (.refl _)))))) h)) x8 x9 o h
def UY(x0:Qd)(x1:List Q3):Option (List Q3×Int):=
 GR x0>>=fun v0=>
 if v0.snd !=(0:Int) then
 some ([],v0.snd)
 else
 some ()>>=fun v1=>
 Zr x1 x0 [] (0:Int)>>=fun v2=>(match v2 with
 | (.inl v3)=>
 some (v3,(0:Int))
 | (.inr v4)=>
 some (v4.fst,v4.snd))
theorem Ho(x0:Qd)(x1:List Q3)(r:(List Q3×Int))(h:UY x0 x1=some r):PU 13 [Qp x0,X6 x1] (Yh r):=
 Pu2 (hs:=[(20,.c VY),(24,.split),(3000007,.l [] [1,2,8,9] [kk 2,{slot:=8,own:=8}] [4,5,8] [{slot:=4,fz:=true},{slot:=8,fz:=true}] (XM (x1,x0)))]) ((kC (sh:=VY) (Rs x0) fun v0=>(kIf (c:=v0.snd !=(0:Int)) (kE (enc:=Yh) ([],v0.snd) (LeT.tup (.cons (LeT.nil 8) (.cons (LeT.refl (ii v0.snd)) .nil))))
 (kL2 () (hL:=(Lz x1 x0 [] (0:Int))) (hA:=fun v1 v3=>(kEr (enc:=Yh) (v3,(0:Int))))
 (hB:=fun v1 v4=>(kEr (enc:=Yh) (v4.fst,v4.snd)))))) h)
def Un(s:((List gVal)× (List gVal)))(u:Unit)(o:Unit ⊕ Bool):List Alt:=[⟨fun(x:Unit)=>(Sum.inl x:Unit ⊕ Bool)=o,.exit 0,fun x=>[.undef],fun x=>[]⟩,⟨fun(x:Bool)=>(Sum.inr x:Unit ⊕ Bool)=o,.ret,fun x=>[.bool x],fun x=>[]⟩]
def K5(x0:List gVal)(x1:List gVal)(x5:Int):Option (Unit ⊕ Bool):=
 some (List.length x0:Int)>>=fun v0=>
 if x5<v0 then
 ix x0 x5>>=fun v1=>
 ix x1 x5>>=fun v2=>
 if !(v1.fN==v2.fN&& (v1.fD==v2.fD&&true)) then
 some (.inr false)
 else
 K5 x0 x1 (wr (x5+(1:Int)))
 else
 some (.inl ())
 partial_fixpoint
theorem Sl(x0:List gVal)(x1:List gVal)(x5:Int)(o:Unit ⊕ Bool)(h:K5 x0 x1 x5=some o):LO 69 4 26 [0,1,5] [.sl 2 (List.map Qk x0),.sl 2 (List.map Qk x1),ii x5] [] [4] (Un (x0,x1) () o):=
 K5.partial_correctness x0 x1 (fun x5 o=>LO 69 4 26 [0,1,5] [.sl 2 (List.map Qk x0),.sl 2 (List.map Qk x1),ii x5] [] [4] (Un (x0,x1) () o))
 (fun K5 Q4h x5 o h=>
 Lp2 (hs:=[(13,.n eI 13 none),(14,.split),(19,.e Qk),(23,.e Qk),(25,.split)]) (kb:=[]) (kbx:=[]) ((kN _ (mLen (sh:=Qk) x0) fun v0=>(kIfD (p:=x5<v0) (kIx (enc:=Qk) (l:=x0) (k:=x5) fun v1=>(kIx (enc:=Qk) (l:=x1) (k:=x5) fun v2=>(kIf (c:= !(v1.fN==v2.fN&& (v1.fD==v2.fD&&true))) (kX (alts:=Un (x0,x1) ()) (.inr false) (.next (.here _ rfl (.refl _) (.refl _))))
 (kM0 (alts:=Un (x0,x1) ()) (Q4h (wr (x5+(1:Int))))))))
 (kX (alts:=Un (x0,x1) ()) (.inl ()) (.here _ rfl (.refl _) (.refl _))))) h)) x5 o h
def Nq(x0:List gVal)(x1:List gVal):Option Bool:=
 some (List.length x0:Int)>>=fun v0=>
 some (List.length x1:Int)>>=fun v1=>
 if v0 !=v1 then
 some false
 else
 some ()>>=fun v2=>
 K5 x0 x1 (0:Int)>>=fun v3=>(match v3 with
 | (.inl v4)=>
 some true
 | (.inr v5)=>
 some v5)
theorem On(x0:List gVal)(x1:List gVal)(r:Bool)(h:Nq x0 x1=some r):PU 69 [MM x0,MM x1] (eB r):=
 Pu2 (hs:=[(7,.n eI 7 none),(9,.n eI 9 none),(10,.split),(3000005,.l [] [0,1,5] [] [4] [] (Un (x0,x1)))]) ((kN _ (mLen (sh:=Qk) x0) fun v0=>(kN _ (mLen (sh:=Qk) x1) fun v1=>(kIf (c:=v0 !=v1) (kEr (enc:=eB) false)
 (kL2 () (hL:=(Sl x0 x1 (0:Int))) (hA:=fun v2 v4=>(kEr (enc:=eB) true))
 (hB:=fun v2 v5=>(kEr (enc:=eB) v5)))))) h)
def CR(x0:Qf)(x1:Qf):Option Bool:=
 if x0.fType.fKind==x1.fType.fKind&& (x0.fType.fBits==x1.fType.fBits&& (x0.fType.fFrac==x1.fType.fFrac&& (x0.fType.fRound==x1.fType.fRound&& (x0.fType.fOver==x1.fType.fOver&&true)))) then
 Cy x0.fDims x1.fDims>>=fun v0=>if v0 then
 Nq x0.fVals x1.fVals>>=fun v1=>
 some v1
 else
 some false
 else
 some false
theorem AH(x0:Qf)(x1:Qf)(r:Bool)(h:CR x0 x1=some r):PU 38 [QA x0,QA x1] (eB r):=
 Pu2 (hs:=[(9,.split),(15,.cb),(22,.c eB)]) ((kIf (c:=x0.fType.fKind==x1.fType.fKind&& (x0.fType.fBits==x1.fType.fBits&& (x0.fType.fFrac==x1.fType.fFrac&& (x0.fType.fRound==x1.fType.fRound&& (x0.fType.fOver==x1.fType.fOver&&true))))) (kCb (EW x0.fDims x1.fDims) (kC (sh:=eB) (On x0.fVals x1.fVals) fun v1=>(kEr (enc:=eB) v1))
 (kEr (enc:=eB) false))
 (kEr (enc:=eB) false)) h)
def VI(s:((List Q3)× (List Q3)))(u:Unit)(o:Unit ⊕ Bool):List Alt:=[⟨fun(x:Unit)=>(Sum.inl x:Unit ⊕ Bool)=o,.exit 0,fun x=>[.undef],fun x=>[]⟩,⟨fun(x:Bool)=>(Sum.inr x:Unit ⊕ Bool)=o,.ret,fun x=>[.bool x],fun x=>[]⟩]
def J3(s:((List Q3)× (List Q3)))(u:Int)(o:Bool):List Alt:=jb o (fun b=>[.sl 8 (List.map Q8 (s.1)),.sl 8 (List.map Q8 (s.2)),ii u,.bool b]) []
def Y2(x0:List Q3)(x1:List Q3)(x5:Int):Option (Unit ⊕ Bool):=
 some (List.length x0:Int)>>=fun v0=>
 if x5<v0 then
 some x5>>=fun v1=>
 (ix x0 x5>>=fun v3=>
 ix x1 x5>>=fun v4=>
 if !v3.fName==v4.fName then
 some true
 else
 ix x0 x5>>=fun v5=>
 ix x1 x5>>=fun v6=>
 CR v5.fTensor v6.fTensor>>=fun v7=>if v7 then
 some false
 else
 some true)>>=fun v2=>if v2 then
 some (.inr false)
 else
 Y2 x0 x1 (wr (v1+(1:Int)))
 else
 some (.inl ())
 partial_fixpoint
theorem Rd(x0:List Q3)(x1:List Q3)(x5:Int)(o:Unit ⊕ Bool)(h:Y2 x0 x1 x5=some o):LO 14 4 42 [0,1,5] [.sl 8 (List.map Q8 x0),.sl 8 (List.map Q8 x1),ii x5] [] [4] (VI (x0,x1) () o):=
 Y2.partial_correctness x0 x1 (fun x5 o=>LO 14 4 42 [0,1,5] [.sl 8 (List.map Q8 x0),.sl 8 (List.map Q8 x1),ii x5] [] [4] (VI (x0,x1) () o))
 (fun Y2 Q4g x5 o h=>
 Lp2 (hs:=[(13,.n eI 13 none),(14,.split),(19,.e Q8),(24,.e Q8),(27,.split),(31,.e Q8),(36,.e Q8),(39,.cb),(5000006,.l [] [] [] [0,1,5,41] [] (J3 (x0,x1)))]) (kb:=[]) (kbx:=[]) ((kN _ (mLen (sh:=Q8) x0) fun v0=>(kIfD (p:=x5<v0) (kJb (id:=5000006) x5 (fun v1 a6 v2=>(kIx (enc:=Q8) (l:=x0) (k:=x5) fun v3=>(kIx (enc:=Q8) (l:=x1) (k:=x5) fun v4=>(kIf (c:= !v3.fName==v4.fName) (kXj (alts:=J3 (x0,x1)) a6 true (.here () rfl (.refl _) (.refl _)))
 (kIx (enc:=Q8) (l:=x0) (k:=x5) fun v5=>(kIx (enc:=Q8) (l:=x1) (k:=x5) fun v6=>(kCb (AH v5.fTensor v6.fTensor) (kXj (alts:=J3 (x0,x1)) a6 false (.next (.here () rfl (.refl _) (.refl _))))
 (kXj (alts:=J3 (x0,x1)) a6 true (.here () rfl (.refl _) (.refl _))))))))))
 (fun v1=>(kX (alts:=VI (x0,x1) ()) (.inr false) (.next (.here _ rfl (.refl _) (.refl _)))))
 (fun v1=>(kM0 (alts:=VI (x0,x1) ()) (Q4g (wr (v1+(1:Int)))))))
 (kX (alts:=VI (x0,x1) ()) (.inl ()) (.here _ rfl (.refl _) (.refl _))))) h)) x5 o h
def D0(x0:List Q3)(x1:List Q3):Option Bool:=
 some (List.length x0:Int)>>=fun v0=>
 some (List.length x1:Int)>>=fun v1=>
 if v0 !=v1 then
 some false
 else
 some ()>>=fun v2=>
 Y2 x0 x1 (0:Int)>>=fun v3=>(match v3 with
 | (.inl v4)=>
 some true
 | (.inr v5)=>
 some v5)
theorem II(x0:List Q3)(x1:List Q3)(r:Bool)(h:D0 x0 x1=some r):PU 14 [X6 x0,X6 x1] (eB r):=
 Pu2 (hs:=[(7,.n eI 7 none),(9,.n eI 9 none),(10,.split),(3000005,.l [] [0,1,5] [] [4] [] (VI (x0,x1)))]) ((kN _ (mLen (sh:=Q8) x0) fun v0=>(kN _ (mLen (sh:=Q8) x1) fun v1=>(kIf (c:=v0 !=v1) (kEr (enc:=eB) false)
 (kL2 () (hL:=(Rd x0 x1 (0:Int))) (hA:=fun v2 v4=>(kEr (enc:=eB) true))
 (hB:=fun v2 v5=>(kEr (enc:=eB) v5)))))) h)
def VC(s:List Q3)(u:((List Q9)×Int))(o:List Q3):List Alt:=[⟨fun(x:List Q3)=>x=o,.exit 0,fun x=>[.sl 8 (List.map Q8 x)],fun x=>[]⟩]
def V1(s:((List Q3)× (List Q9)×Int))(u:((List Q3)×Q9×Qf×Int))(o:Bool):List Alt:=jb o (fun b=>[.sl 8 (List.map Q8 (s.1)),.ow 0 0 8 (List.length (u.1)),.ptr 1 0 0,.ptr 2 0 0,.sl 8 (List.map Q5 (s.2.1)),ii (s.2.2),ii (u.2.2.2),.bool b]) [.own 0 8 (List.map Q8 (u.1)),.cells 0 (Q5 (u.2.1)).cells,.cells 0 (QA (u.2.2.1)).cells]
def U6(s:((List Q3)× (List Q9)×Int))(u:Int)(o:List Q3):List Alt:=[⟨fun(x:List Q3)=>x=o,.normal,fun x=>[.sl 8 (List.map Q8 (s.1)),.ow 0 0 8 (List.length x),.sl 8 (List.map Q5 (s.2.1)),ii (s.2.2),ii u],fun x=>[.own 0 8 (List.map Q8 x)]⟩]
def ZX(x1:List Q3)(x5:List Q3)(a5:List Q9)(a6:Int)(a3:Int):Option (List Q3):=
 if a3<a6 then
 some a3>>=fun v0=>
 (ix a5 a3>>=fun v2=>
 D5 x1 v2.fName>>=fun v3=>
 some (x5,v2,v3.fst,a3)>>=fun v4=>
 (if v3.snd then
 if v2.fUse==(2:Int) then
 some true
 else
 some false
 else
 some false)>>=fun v5=>if v5 then
 VF v4.snd.snd.fst>>=fun v7=>
 some ((Q3.mk v4.snd.fst.fName v7))>>=fun v8=>
 if(v4.fst.length+(1:Nat))*(104:Nat)≤(140737488355328:Nat)∧v4.fst.length+(1:Nat)≤(9223372036854775807:Nat) then
 some (v4.fst++[(Q3.mk v4.snd.fst.fName v7)])>>=fun v9=>
 some v9
 else none
 else
 some v4.fst)>>=fun a7=>
 ZX x1 a7 a5 a6 (wr (v0+(1:Int)))
 else
 some x5
 partial_fixpoint
theorem IX(x1:List Q3)(x5:List Q3)(a3:List Q9)(a4:Int)(a5:Int)(o:List Q3)(h:ZX x1 x5 a3 a4 a5=some o):LO 15 3 40 [1,5,11,12,13] [.sl 8 (List.map Q8 x1),.ow 0 0 8 (List.length x5),.sl 8 (List.map Q5 a3),ii a4,ii a5] [.own 0 8 (List.map Q8 x5)] [5] (VC x1 (a3,a4) o):=
 ZX.partial_correctness x1 a3 a4 (fun x5 a5 o=>LO 15 3 40 [1,5,11,12,13] [.sl 8 (List.map Q8 x1),.ow 0 0 8 (List.length x5),.sl 8 (List.map Q5 a3),ii a4,ii a5] [.own 0 8 (List.map Q8 x5)] [5] (VC x1 (a3,a4) o))
 (fun ZX Q4x x5 a5 o h=>
 Lp2 (hs:=[(14,.split),(15,.e Q5),(21,.c ZH),(24,.split),(28,.split),(34,.c QA),(35,.n Q8 35 none),(37,.z [{slot:=30,own:=8}] (some (.n Q8 37 (some .a)))),(5000006,.l [] [] [] [1,5,7,8,11,12,13,29] [{slot:=5,own:=8},kk 7,kk 8] (V1 (x1,a3,a4))),(7000001,.l [] [] [] [1,5,11,12,13] [{slot:=5,own:=8}] (U6 (x1,a3,a4)))]) (kb:=[{slot:=5,own:=8}]) (kbx:=[{slot:=5,fz:=true}]) ((kIfD (p:=a5<a4) (kJ1 (id:=7000001) a5 (fun v0 aa v1=>(kIx (enc:=Q5) (l:=a3) (k:=a5) fun v2=>(kC (sh:=ZH) (IL x1 v2.fName) fun v3=>(kJbE (id:=5000006) (x5,v2,v3.fst,a5) (fun v4 a8 v5=>(kIf (c:=v3.snd) (kIf (c:=v2.fUse==(2:Int)) (kXj (alts:=V1 (x1,a3,a4)) a8 true (.here () rfl (.refl _) (.refl _)))
 (kXj (alts:=V1 (x1,a3,a4)) a8 false (.next (.here () rfl (.refl _) (.refl _)))))
 (kXj (alts:=V1 (x1,a3,a4)) a8 false (.next (.here () rfl (.refl _) (.refl _))))))
 (fun v4 a8=>(kC (sh:=QA) (Nb v4.snd.snd.fst) fun v7=>(kW (sh:=Q8) (Q3.mk v4.snd.fst.fName v7) lr fun v8=>(kA (q:=(v4.fst.length+(1:Nat))*(104:Nat)≤(140737488355328:Nat)∧v4.fst.length+(1:Nat)≤(9223372036854775807:Nat)) (sh:=Q8) (l:=v4.fst) (kO (sh:=Q8) (v4.fst++[(Q3.mk v4.snd.fst.fName v7)]) (mA (sh:=Q8) v4.fst (Q3.mk v4.snd.fst.fName v7)) (nA v4.fst (Q3.mk v4.snd.fst.fName v7)) fun v9=>(kXj (alts:=U6 (x1,a3,a4)) (u0:=v4.snd.snd.snd) (by subst a8;exact aa) v9 (.here _ rfl (.refl _) (.refl _))))))))
 (fun v4 a8=>(kXj (alts:=U6 (x1,a3,a4)) (u0:=v4.snd.snd.snd) (by subst a8;exact aa) v4.fst (.here _ rfl (.refl _) (.refl _))))))))
 (fun v0 ac=>(kM0 (alts:=VC x1 (a3,a4)) (Q4x ac (wr (v0+(1:Int)))))))
 (kT (nM (sh:=Q8) x5) (kX (alts:=VC x1 (a3,a4)) x5 (.here _ rfl (.refl _) (.refl _))))) h)) x5 a5 o h
def GL(x0:Qd)(x1:List Q3):Option (List Q3):=
 some (List.length x0.fBufs:Int)>>=fun v0=>
 some (x0.fBufs,v0)>>=fun v1=>
 ZX x1 [] x0.fBufs v0 (0:Int)>>=fun v3=>
 some v3
theorem Rg(x0:Qd)(x1:List Q3)(r:List Q3)(h:GL x0 x1=some r):PU 15 [Qp x0,X6 x1] (X6 r):=
 Pu2 (hs:=[(12,.n eI 12 none),(3000004,.l [] [1,5,11,12,13] [{slot:=5,own:=8}] [5] [{slot:=5,fz:=true}] (VC x1))]) ((kN _ (mLen (sh:=Q5) x0.fBufs) fun v0=>(kL1 (x0.fBufs,v0) (IX x1 [] x0.fBufs v0 (0:Int)) fun v1 v3=>(kEr (enc:=X6) v3))) h)
def Ji(s:((List Q3)×Qd))(u:Unit)(o:List Q3):List Alt:=[⟨fun(x:List Q3)=>x=o,.exit 0,fun x=>[.sl 8 (List.map Q8 x)],fun x=>[]⟩]
def Vc(s:((List Q3)×Qd))(u:((List Q3)×Int×Qf))(o:Bool):List Alt:=jb o (fun b=>[.sl 8 (List.map Q8 (s.1)),.ptr 0 0 0,.ow 1 0 8 (List.length (u.1)),ii (u.2.1),.ptr 2 0 0,.bool b]) [.cells 0 (Qp (s.2)).cells,.own 0 8 (List.map Q8 (u.1)),.cells 0 (QA (u.2.2)).cells]
def Uw(s:((List Q3)×Qd))(u:Int)(o:List Q3):List Alt:=[⟨fun(x:List Q3)=>x=o,.normal,fun x=>[.sl 8 (List.map Q8 (s.1)),.ptr 0 0 0,.ow 1 0 8 (List.length x),ii u],fun x=>[.cells 0 (Qp (s.2)).cells,.own 0 8 (List.map Q8 x)]⟩]
def Xd(x1:List Q3)(x2:Qd)(x5:List Q3)(x6:Int):Option (List Q3):=
 some (List.length x2.fBufs:Int)>>=fun v0=>
 if x6<v0 then
 some x6>>=fun v1=>
 (ix x2.fBufs x6>>=fun v3=>
 Gz x1 v3.fName>>=fun v4=>
 some (x5,x6,v4.fst)>>=fun v5=>
 (if v4.snd then
 ix x2.fBufs x6>>=fun v7=>
 if v7.fUse==(2:Int) then
 some true
 else
 some false
 else
 some false)>>=fun v6=>if v6 then
 ix x2.fBufs v5.snd.fst>>=fun v9=>
 some ((Q3.mk v9.fName v5.snd.snd))>>=fun ae=>
 if(v5.fst.length+(1:Nat))*(104:Nat)≤(140737488355328:Nat)∧v5.fst.length+(1:Nat)≤(9223372036854775807:Nat) then
 some (v5.fst++[(Q3.mk v9.fName v5.snd.snd)])>>=fun a6=>
 some a6
 else none
 else
 some v5.fst)>>=fun a7=>
 Xd x1 x2 a7 (wr (v1+(1:Int)))
 else
 some x5
 partial_fixpoint
theorem Hq(x1:List Q3)(x2:Qd)(x5:List Q3)(x6:Int)(o:List Q3)(h:Xd x1 x2 x5 x6=some o):LO 16 3 49 [1,2,5,6] [.sl 8 (List.map Q8 x1),.ptr 0 0 0,.ow 1 0 8 (List.length x5),ii x6] [.cells 0 (Qp x2).cells,.own 0 8 (List.map Q8 x5)] [5] (Ji (x1,x2) () o):=
 Xd.partial_correctness x1 x2 (fun x5 x6 o=>LO 16 3 49 [1,2,5,6] [.sl 8 (List.map Q8 x1),.ptr 0 0 0,.ow 1 0 8 (List.length x5),ii x6] [.cells 0 (Qp x2).cells,.own 0 8 (List.map Q8 x5)] [5] (Ji (x1,x2) () o))
 (fun Xd Q6m x5 x6 o h=>
 Lp2 (hs:=[(12,.n eI 12 none),(13,.split),(21,.e Q5),(24,.c ZH),(27,.split),(32,.e Q5),(35,.split),(41,.e Q5),(45,.n Q8 45 none),(47,.z [{slot:=37,own:=8}] (some (.n Q8 47 (some .a)))),(5000006,.l [] [] [] [1,2,5,6,7,36] [kk 2,{slot:=5,own:=8},kk 7] (Vc (x1,x2))),(7000001,.l [] [] [] [1,2,5,6] [kk 2,{slot:=5,own:=8}] (Uw (x1,x2)))]) (kb:=[kk 2,{slot:=5,own:=8}]) (kbx:=[{slot:=5,fz:=true}]) ((kN _ (mLen (sh:=Q5) x2.fBufs) fun v0=>(kIfD (p:=x6<v0) (kJ1 (id:=7000001) x6 (fun v1 a9 v2=>(kIx (enc:=Q5) (l:=x2.fBufs) (k:=x6) fun v3=>(kC (sh:=ZH) (MH x1 v3.fName) fun v4=>(kJbE (id:=5000006) (x5,x6,v4.fst) (fun v5 a6 v6=>(kIf (c:=v4.snd) (kIx (enc:=Q5) (l:=x2.fBufs) (k:=x6) fun v7=>(kIf (c:=v7.fUse==(2:Int)) (kXj (alts:=Vc (x1,x2)) a6 true (.here () rfl (.refl _) (.refl _)))
 (kXj (alts:=Vc (x1,x2)) a6 false (.next (.here () rfl (.refl _) (.refl _))))))
 (kXj (alts:=Vc (x1,x2)) a6 false (.next (.here () rfl (.refl _) (.refl _))))))
 (fun v5 a6=>(kIx (enc:=Q5) (l:=x2.fBufs) (k:=v5.snd.fst) fun v9=>(kW (sh:=Q8) (Q3.mk v9.fName v5.snd.snd) lr fun ag=>(kA (q:=(v5.fst.length+(1:Nat))*(104:Nat)≤(140737488355328:Nat)∧v5.fst.length+(1:Nat)≤(9223372036854775807:Nat)) (sh:=Q8) (l:=v5.fst) (kO (sh:=Q8) (v5.fst++[(Q3.mk v9.fName v5.snd.snd)]) (mA (sh:=Q8) v5.fst (Q3.mk v9.fName v5.snd.snd)) (nA v5.fst (Q3.mk v9.fName v5.snd.snd)) fun ab=>(kXj (alts:=Uw (x1,x2)) (u0:=v5.snd.fst) (by subst a6;exact a9) ab (.here _ rfl (.refl _) (.refl _))))))))
 (fun v5 a6=>(kXj (alts:=Uw (x1,x2)) (u0:=v5.snd.fst) (by subst a6;exact a9) v5.fst (.here _ rfl (.refl _) (.refl _))))))))
 (fun v1 ac=>(kM0 (alts:=Ji (x1,x2) ()) (Q6m ac (wr (v1+(1:Int)))))))
 (kT (nM (sh:=Q8) x5) (kX (alts:=Ji (x1,x2) ()) x5 (.here _ rfl (.refl _) (.refl _)))))) h)) x5 x6 o h
def Dl(x0:Qd)(x1:List Q3):Option (List Q3):=
 some ()>>=fun v0=>
 Xd x1 x0 [] (0:Int)>>=fun v2=>
 some v2
theorem Tj(x0:Qd)(x1:List Q3)(r:List Q3)(h:Dl x0 x1=some r):PU 16 [Qp x0,X6 x1] (X6 r):=
 Pu2 (hs:=[(3000004,.l [] [1,2,5,6] [kk 2,{slot:=5,own:=8}] [5] [{slot:=5,fz:=true}] (Ji (x1,x0)))]) ((kL1 () (Hq x1 x0 [] (0:Int)) fun v0 v2=>(kEr (enc:=X6) v2)) h)
end Go.Proofs.YtolcgikajjkjgaaGreatDoor
end
section
namespace HY
open Go
section
variable {α β : Type}
theorem bS{a:α}{f:α→Option β}:(some a>>=f)=f a:=rfl
theorem omS{a:α}{f:α→β}:Option.map f (some a)=some (f a):=rfl
theorem WY{a b:α}:(if(true=true) then a else b)=a:=rfl
theorem Cc{a b:α}:(if(false=true) then a else b)=b:=rfl
end
theorem Yi{α:Type}{l p:List α}{x:α}{t:List α}(h:l=p++x::t):ix l p.length=some x:=by
 unfold ix;rw[if_pos (by omega),Int.toNat_natCast,h,List.getElem?_append_right (Nat.le_refl _)];simp
theorem ZA{n:Int}{k:Nat}(h0:0≤n)(h1:n<k)(hk:k≤4611686018427387904):wr (n+1)=n+1:=Zw (by omega)
theorem Ef{α:Type}{l:List α}{i:Int}(h0:0≤i)(h1:i<l.length):∃x,ix l i=some x∧x∈l:=by
 refine⟨l[i.toNat]'(by omega),?_,List.getElem_mem _⟩
 unfold ix;rw[if_pos h0,List.getElem?_eq_getElem]
end HY
end
section
namespace Go.Proofs.YtolcgikajjkjgaaGreatDoor
open Go HY
set_option linter.unusedVariables false
set_option linter.unusedSimpArgs false
def fits(n:Int):Prop:= -9223372036854775808≤n∧n≤9223372036854775807
def kw:List Str:=[[(115:UInt8),(105:UInt8),(122:UInt8),(101:UInt8)],[(119:UInt8),(104:UInt8),(101:UInt8),(114:UInt8),(101:UInt8)],[(105:UInt8),(110:UInt8)],[(100:UInt8),(101:UInt8),(102:UInt8)],[(111:UInt8),(117:UInt8),(116:UInt8)],[(115:UInt8),(117:UInt8),(109:UInt8)],[(112:UInt8),(114:UInt8),(111:UInt8),(100:UInt8)],[(109:UInt8),(105:UInt8),(110:UInt8)],[(109:UInt8),(97:UInt8),(120:UInt8)],[(115:UInt8),(99:UInt8),(97:UInt8),(110:UInt8)],[(111:UInt8),(118:UInt8),(101:UInt8),(114:UInt8)],[(105:UInt8),(102:UInt8)],[(99:UInt8),(97:UInt8),(115:UInt8),(116:UInt8)],[(102:UInt8),(114:UInt8),(97:UInt8),(99:UInt8)],[(105:UInt8),(110:UInt8),(116:UInt8)],[(102:UInt8),(105:UInt8),(120:UInt8)],[(99:UInt8),(101:UInt8),(105:UInt8),(108:UInt8)],[(102:UInt8),(108:UInt8),(111:UInt8),(111:UInt8),(114:UInt8)],[(122:UInt8),(101:UInt8),(114:UInt8),(111:UInt8)],[(101:UInt8),(118:UInt8),(101:UInt8),(110:UInt8)],[(115:UInt8),(97:UInt8),(116:UInt8)],[(119:UInt8),(114:UInt8),(97:UInt8),(112:UInt8)]]
def low(c:UInt8):Bool:=decide (97≤(c.toNat:Int))&&decide ((c.toNat:Int)≤122)
def tl(c:UInt8):Bool:=low c || (decide (48≤(c.toNat:Int))&&decide ((c.toNat:Int)≤57)) || ((c.toNat:Int)==95)
def nm(s:Str):Bool:=decide (1≤(s.length:Int))&& (decide ((s.length:Int)≤16)&& (!(kw.contains s)&& ((match s with | []=>false | c::_=>low c)&&s.all tl)))
theorem IS(l:List Str)(s:Str)(hl:l.length≤1048576):Yf l s 0=some (if l.contains s then .inr true else .inl ()):=by
 refine D9 (F:=fun i=>Yf l s i) (l:=l) (fun t=>if t.contains s then .inr true else .inl ()) ?_ ?_
 ·show Yf l s (l.length:Int)=_;rw[Yf,bS,if_neg (by omega)];rfl
 ·intro i x t h0 h1 a3 ih;show Yf l s i=_;rw[Yf,bS,if_pos (by omega),a3,bS]
  by_cases hx:x=s;·subst hx;simp
  ·rw[if_neg (by simpa using hx),ZA h0 h1 (by omega)]
   rw[ih,List.contains_cons];have:(s==x)=false:=by simpa using fun e=>hx e.symm
   rw[this,Bool.false_or]
theorem Q0p(s:Str):GJ kw s=some (kw.contains s):=by
 unfold GJ;rw[bS,IS kw s (by decide),bS]
 cases kw.contains s<;>rfl
theorem PN:MB=some kw:=rfl
theorem SO(s:Str)(hl:s.length≤1048576):XO s 0=some (if(match s with | []=>true | c::t=>low c&&t.all tl) then .inl () else .inr false):=by
 have loop:∀(t p:Str),s=p++t→p≠[]→XO s p.length=some (if t.all tl then .inl () else .inr false):=by
  intro t
  induction t with
  |nil=>intro p e _;rw[XO,if_neg (by rw[e];simp)];rfl
  |cons c t ih=>
   intro p e hp;have a3:(p.length:Int)< (s.length:Int):=by rw[e];simp;omega
   have h0:0<p.length:=List.length_pos_iff.2 hp;rw[XO,if_pos a3,Yi e,bS,bS];have a4:=ih (p++[c]) (by rw[e];simp) (by simp)
   rw[show((p++[c]).length:Int)=(p.length:Int)+1 by simp] at a4
   rw[ZA (by omega) a3 (by omega),List.all_cons,a4]
   unfold tl low;by_cases c1:(97:Int)≤c.toNat<;>by_cases c2:(c.toNat:Int)≤122<;>by_cases c3:(48:Int)≤c.toNat<;>by_cases c4:(c.toNat:Int)≤57<;>by_cases c5:(c.toNat:Int)=95<;>simp[c1,c2,c3,c4,c5,h0,bS]<;>omega
 cases s with
 |nil=>rw[XO,if_neg (by simp)];rfl
 |cons c t=>
  rw[XO,if_pos (by simp<;>omega),show ix (c::t) 0=some c from rfl,bS,bS]
  have:=loop t [c] rfl (by simp)
  rw[show(([c]:Str).length:Int)=0+1 by rfl] at this
  rw[show wr (0+1)=0+1 from rfl,this];unfold low;by_cases c1:(97:Int)≤c.toNat<;>by_cases c2:(c.toNat:Int)≤122<;>simp[c1,c2,bS]
theorem CN(s:Str):Uf s=some (nm s):=by
 unfold Uf nm;rw[bS];by_cases h1:(s.length:Int)<1;·rw[if_pos h1,bS,if_pos rfl,decide_eq_false (by omega)];rfl
 ·rw[if_neg h1,decide_eq_true (by omega)]
  by_cases h2:16< (s.length:Int);·rw[if_pos h2,bS,if_pos rfl,decide_eq_false (by omega)];rfl
  ·have hl:s.length≤1048576:=by omega
   rw[if_neg h2,PN,bS,Q0p,decide_eq_true (by omega)]
   cases hk:kw.contains s with
   |true=>simp only[bS,if_true];rfl
   |false=>
    simp only[bS,Cc];cases s with
    |nil=>simp at h1
    |cons c t=>
     have e2:(low c&& (tl c&&t.all tl))=(low c&&t.all tl):=by
      cases hc:low c;·rfl
      ·have:tl c=true:=by unfold tl;rw[hc];rfl
       rw[this]<;>rfl
     rw[SO (c::t) hl,bS,List.all_cons,e2];show(match(if(low c&&t.all tl)=true then(Sum.inl ():Unit ⊕ Bool) else Sum.inr false) with | .inl v8=>some true | .inr v9=>some v9)=_
     cases(low c&&t.all tl)<;>rfl
theorem SQ(s:Str):DZ s=some (kw.contains s):=by
 unfold DZ;rw[bS];have key:∀(a:Str) (l:List Str) (x:Option Bool),x=some (l.contains s)→(if s==a then some true else x)=some ((a::l).contains s):=fun a l x h=>by
  rw[List.contains_cons];cases e:s==a;·rw[Cc,h];rfl
  ·rfl
 have:∀x:Option Bool,x=some (kw.contains s)→(x>>=fun v1=>if v1 then some true else some false)=some (kw.contains s):=fun x h=>by
  rw[h,bS];cases kw.contains s<;>rfl
 refine this _ ?_;unfold kw
 repeat (first | exact rfl | refine key _ _ _ ?_)
theorem Hd(s:Str)(hl:s.length≤1048576):Zv s s.length 0=some (if s.all tl then .inl () else .inr false):=by
 refine D9 (F:=fun i=>Zv s s.length i) (l:=s) (fun t=>if t.all tl then .inl () else .inr false) ?_ ?_
 ·show Zv s s.length (s.length:Int)=_;rw[Zv,if_neg (by omega)];rfl
 ·intro i c t h0 h1 a3 ih;show Zv s s.length i=_;rw[Zv,if_pos h1,a3,bS,bS,ZA h0 h1 (by omega),List.all_cons,ih]
  unfold tl low;by_cases c1:(97:Int)≤c.toNat<;>by_cases c2:(c.toNat:Int)≤122<;>by_cases c3:(48:Int)≤c.toNat<;>by_cases c4:(c.toNat:Int)≤57<;>by_cases c5:(c.toNat:Int)=95<;>simp[c1,c2,c3,c4,c5,bS,show((c.toNat:Int)<97)=¬((97:Int)≤c.toNat) by simp,show((c.toNat:Int)<48)=¬((48:Int)≤c.toNat) by simp,show((122:Int)<c.toNat)=¬((c.toNat:Int)≤122) by simp,show((57:Int)<c.toNat)=¬((c.toNat:Int)≤57) by simp]<;>omega
theorem RO(s:Str):GN s=some (nm s):=by
 unfold GN nm;rw[bS];by_cases h1:(s.length:Int)<1;·rw[if_pos h1,bS,if_pos rfl,decide_eq_false (by omega)];rfl
 ·rw[if_neg h1,decide_eq_true (by omega)]
  by_cases h2:16< (s.length:Int);·rw[if_pos h2,bS,if_pos rfl,decide_eq_false (by omega)];rfl
  ·have hl:s.length≤1048576:=by omega
   rw[if_neg h2,SQ,decide_eq_true (by omega)]
   cases hk:kw.contains s with
   |true=>simp only[bS,if_true];rfl
   |false=>
    simp only[bS,Cc];cases s with
    |nil=>simp at h1
    |cons c t=>
     have h3:=Hd (c::t) hl;simp only[show ix (c::t) 0=some c from rfl,bS];unfold low;by_cases c1:(c.toNat:Int)<97;·rw[if_pos c1,bS,if_pos rfl,decide_eq_false (by omega)];rfl
     ·rw[if_neg c1,decide_eq_true (by omega)]
      by_cases c2:(122:Int)<c.toNat;·rw[if_pos c2,bS,if_pos rfl,decide_eq_false (by omega)];rfl
      ·rw[if_neg c2];simp only[bS,Cc];rw[h3,bS,decide_eq_true (show(c.toNat:Int)≤122 by omega)]
       cases(c::t).all tl<;>rfl
def badL:Option Zu→List Zu→Bool
 |_,[]=>false
 |p,m::t=>(!(nm m.fName) || ((m.fBy==0) || (match p with | none=>false | some q=> !(Op.bytesLess q.fName m.fName)))) || badL (some m) t
theorem SV(p:Option Zu)(m:Zu)(t:List Zu):badL p (m::t)=((!(nm m.fName) || ((m.fBy==0) || (match p with | none=>false | some q=> !(Op.bytesLess q.fName m.fName)))) || badL (some m) t):=rfl
def okL(l:gLin):Prop:=fits l.fK∧l.fL.length*24≤140737488351232∧∀m∈l.fL,fits m.fBy
def Jg(l:gLin):Bool:= !(badL none l.fL)
theorem EU(l:gLin)(h:okL l):XA l l.fL l.fL.length 0=some (if badL none l.fL then .inr 1 else .inl ()):=by
 obtain⟨_,hl,hm⟩:=h;have loop:∀(t p:List Zu),l.fL=p++t→XA l l.fL l.fL.length p.length=some (if badL p.getLast? t then .inr 1 else .inl ()):=by
  intro t
  induction t with
  |nil=>intro p e;rw[XA,if_neg (by rw[e];simp)];rfl
  |cons c t ih=>
   intro p e;have a4:(p.length:Int)< (l.fL.length:Int):=by rw[e];simp;omega
   rw[XA,if_pos a4,Yi e,bS,bS,RO,ZA (by omega) a4 (by omega)]
   have a3:=ih (p++[c]) (by rw[e];simp)
   rw[show((p++[c]).length:Int)=(p.length:Int)+1 by simp] at a3
   rw[List.getLast?_concat] at a3;rw[SV];cases hn:nm c.fName with
   |false=>rfl
   |true=>
    cases hb:c.fBy==(0:Int) with
    |true=>simp only[bS,if_true];rfl
    |false=>
     rcases List.eq_nil_or_concat p with rfl | ⟨q,y,hq⟩
     ·simp only[bS,if_true,if_false,Bool.false_eq_true];rw[if_neg (by simp)]
      simp only[bS,if_false,Bool.false_eq_true];rw[a3];rfl
     ·rw[List.concat_eq_append] at hq;subst hq;simp only[bS,if_true,if_false,Bool.false_eq_true];have a6:(((q++[y]).length:Nat):Int)=q.length+1:=by simp
      rw[if_pos (by omega),Zw (by omega)]
      rw[show(((q++[y]).length:Nat):Int) - 1=(q.length:Int) by simp,Yi (show l.fL=q++y::(c::t) by rw[e];simp),bS,List.getLast?_concat]
      cases hb2:Op.bytesLess y.fName c.fName with
      |true=>simp only[hb2,Bool.not_true,Bool.or_false,Bool.false_or,bS,if_false,Bool.false_eq_true];rw[a3]
      |false=>simp only[hb2,Bool.not_false,if_true,bS,Bool.or_true,Bool.true_or]
 exact loop l.fL [] rfl
theorem SP(l:gLin)(h:okL l):DY l=some (if Jg l then 0 else 1):=by
 unfold DY Jg;rw[bS,bS,EU l h,bS];cases badL none l.fL<;>rfl
theorem HR(l:gLin)(h:okL l):Xa l 0=some (if badL none l.fL then .inr false else .inl ()):=by
 obtain⟨_,hl,hm⟩:=h;have loop:∀(t p:List Zu),l.fL=p++t→Xa l p.length=some (if badL p.getLast? t then .inr false else .inl ()):=by
  intro t
  induction t with
  |nil=>intro p e;rw[Xa,bS,if_neg (by rw[e];simp)];rfl
  |cons c t ih=>
   intro p e;have a4:(p.length:Int)< (l.fL.length:Int):=by rw[e];simp;omega
   have a5:=Yi e;rw[Xa,bS,if_pos a4,bS,a5,bS,CN,ZA (by omega) a4 (by omega)]
   have a3:=ih (p++[c]) (by rw[e];simp)
   rw[show((p++[c]).length:Int)=(p.length:Int)+1 by simp] at a3
   rw[List.getLast?_concat] at a3;rw[SV];cases hn:nm c.fName with
   |false=>rfl
   |true=>
    simp only[bS,WY];cases hb:c.fBy==(0:Int) with
    |true=>simp only[bS,if_true];rfl
    |false=>
     rcases List.eq_nil_or_concat p with rfl | ⟨q,y,hq⟩
     ·simp only[bS,if_true,if_false,Bool.false_eq_true];rw[if_neg (by simp)]
      simp only[bS,if_false,Bool.false_eq_true];rw[a3];rfl
     ·rw[List.concat_eq_append] at hq;subst hq;simp only[bS,if_true,if_false,Bool.false_eq_true];have a7:(((q++[y]).length:Nat):Int)=q.length+1:=by simp
      rw[if_pos (by omega),Zw (by omega)]
      rw[show(((q++[y]).length:Nat):Int) - 1=(q.length:Int) by simp,Yi (show l.fL=q++y::(c::t) by rw[e];simp),bS,List.getLast?_concat]
      cases hb2:Op.bytesLess y.fName c.fName with
      |true=>simp only[hb2,Bool.not_true,Bool.or_false,Bool.false_or,bS,if_false,Bool.false_eq_true];rw[a3]
      |false=>simp only[hb2,Bool.not_false,if_true,bS,Bool.or_true,Bool.true_or]
 exact loop l.fL [] rfl
theorem N3(l:gLin)(h:okL l):Vd l=some (Jg l):=by
 unfold Vd Jg;rw[bS,HR l h,bS];cases badL none l.fL<;>rfl
def okI(x:Qi):Prop:=okL x.fLin∧x.fAt.length*32≤140737488351232∧∀l∈x.fAt,okL l
inductive okE:Qb→Prop
 |mk (x:Q1) (h1:okL x.fLin) (h2:x.fIdx.length*72≤140737488351232) (h3:∀i∈x.fIdx,okI i) (h4:x.fArgs.length*160≤140737488351232) (h5:∀a∈x.fArgs,okE a):okE (.mk x)
inductive okS:Qe→Prop
 |mk (x:Qw) (h1:x.fIdx.length*72≤140737488351232) (h2:∀i∈x.fIdx,okI i) (h3:okE (.mk x.fExpr)) (h4:x.fBody.length*256≤140737488351232) (h5:∀a∈x.fBody,okS a):okS (.mk x)
def okSs(l:List Qe):Prop:=l.length*256≤140737488351232∧∀a∈l,okS a
theorem okE.of{x:Q1}(h:okE (.mk x)):okL x.fLin∧x.fIdx.length*72≤140737488351232∧(∀i∈x.fIdx,okI i)∧x.fArgs.length*160≤140737488351232∧∀a∈x.fArgs,okE a:=by
 cases h with | mk _ h1 h2 h3 h4 h5=>exact⟨h1,h2,h3,h4,h5⟩
theorem okS.of{x:Qw}(h:okS (.mk x)):x.fIdx.length*72≤140737488351232∧(∀i∈x.fIdx,okI i)∧okE (.mk x.fExpr)∧okSs x.fBody:=by
 cases h with | mk _ h1 h2 h3 h4 h5=>exact⟨h1,h2,h3,h4,h5⟩
def Ko(n:Int):List Int→Option Int
 | []=>some n
 |v::t=>if v<1∨4096<n*v then none else Ko (n*v) t
theorem Lf{n v:Int}{t:List Int}(h:v<1∨4096<n*v):Ko n (v::t)=none:=by rw[Ko,if_pos h]
theorem RQ{n v:Int}{t:List Int}(h:¬(v<1∨4096<n*v)):Ko n (v::t)=Ko (n*v) t:=by rw[Ko,if_neg h]
theorem HS:∀ {d:List Int} {n m:Int},1≤n→Ko n d=some m→n≤m∧(n≤4096→m≤4096)∧∀v∈d,1≤v
 | [],n,m,hn,h=>by cases h;exact⟨Int.le_refl _,id,by simp⟩
 |v::t,n,m,hn,h=>by
  simp only[Ko] at h;split at h;·cases h
  ·rename_i hc;have hv:1≤v:=by omega
   have a7:n≤n*v:=by
    have:=Int.mul_le_mul_of_nonneg_left hv (show 0≤n by omega);rwa [Int.mul_one] at this
   obtain⟨h1,h2,h3⟩:=HS (by omega) h
   refine⟨by omega,fun _=>h2 (by omega),fun w hw=> ?_⟩
   rcases List.mem_cons.1 hw with rfl | hw
   ·exact hv
   ·exact h3 w hw
end Go.Proofs.YtolcgikajjkjgaaGreatDoor
end
