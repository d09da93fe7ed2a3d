/- Proved in the last of these texts: for every input the law returns true and its arguments read afterwards as they read before. This text: a part of the proof. -/
import Derived.Test.YtkgphhemcglgnaaGreatDoorP5
set_option linter.unusedVariables false
set_option linter.unusedSimpArgs false
noncomputable section
namespace Go.Proofs.YtkgphhemcglgnaaGreatDoor
open Go HY
set_option maxRecDepth 1000000
def Gk(s:(gLin×gLin))(u:Unit)(o:Unit ⊕ Bool):List Alt:=lp o (.exit 0) (fun _=>[.undef]) (fun _=>[]) .ret (fun x=>[.bool x]) (fun _=>[])
def Km(x2:gLin)(x3:gLin)(x5:Int):Option (Unit ⊕ Bool):=
 some (List.length x2.fL:Int)>>=fun v0=>
 if x5<v0 then
 ix x2.fL x5>>=fun v1=>
 ix x3.fL x5>>=fun v2=>
 if !(v1.fa==v2.fa&& (v1.fBy==v2.fBy&&true)) then
 some (.inr false)
 else
 Km x2 x3 (wr (x5+1))
 else
 some (.inl ())
 partial_fixpoint
theorem FM(x2 x3 x5 o)(h:Km x2 x3 x5=some o):LO 69 4 38 [2,3,5] [.ptr 0 0 0,.ptr 1 0 0,ii x5] [.cells 0 (Qe x2).cells,.cells 0 (Qe x3).cells] [4] (Gk (x2,x3) () o):=
 Km.partial_correctness x2 x3 (fun x5 o=>LO 69 4 38 [2,3,5] [.ptr 0 0 0,.ptr 1 0 0,ii x5] [.cells 0 (Qe x2).cells,.cells 0 (Qe x3).cells] [4] (Gk (x2,x3) () o))
 (fun Km Q7b x5 o h=>
 Lp2 (hs:=[(23,.n eI 23 none),(24,.split),(30,.e Qk),(35,.e Qk),(37,.split)]) (kb:=[kk 2,kk 3]) (kbx:=[]) ((kN _ (mLen (sh:=Qk) x2.fL) fun v0=>(kIfD (p:=x5<v0) (kIx (enc:=Qk) (l:=x2.fL) (k:=x5) fun v1=>(kIx (enc:=Qk) (l:=x3.fL) (k:=x5) fun v2=>(kIf (c:= !(v1.fa==v2.fa&& (v1.fBy==v2.fBy&&true))) (kX (alts:=Gk (x2,x3) ()) (.inr false) (.next (.here _ rfl (.refl _) (.refl _))))
 (kM0 (alts:=Gk (x2,x3) ()) (Q7b (wr (x5+1)))))))
 (kX (alts:=Gk (x2,x3) ()) (.inl ()) (.here _ rfl (.refl _) (.refl _))))) h)) x5 o h
def Gb(s:(gLin×gLin))(u:Unit)(o:Bool):List Alt:=jb o (fun b=>[.ptr 0 0 0,.ptr 1 0 0,.bool b]) [.cells 0 (Qe (s.1)).cells,.cells 0 (Qe (s.2)).cells]
def Gy(x0:gLin)(x1:gLin):Option Bool:=
 some ()>>=fun v0=>
 (if x0.fK !=x1.fK then
 some true
 else
 some (List.length x0.fL:Int)>>=fun v2=>
 some (List.length x1.fL:Int)>>=fun v3=>
 if v2 !=v3 then
 some true
 else
 some false)>>=fun v1=>if v1 then
 some false
 else
 some ()>>=fun v6=>
 Km x0 x1 0>>=fun v7=>(match v7 with
 | (.inl v8)=>
 some true
 | (.inr v9)=>
 some v9)
theorem He(x0 x1 r)(h:Gy x0 x1=some r):PU 69 [Qe x0,Qe x1] (eB r):=
 Pu2 (hs:=[(10,.split),(14,.n eI 14 none),(17,.n eI 17 none),(18,.split),(3000005,.l [] [2,3,5] [kk 2,kk 3] [4] [] (Gk (x0,x1))),(5000001,.l [] [] [] [2,3,19] [kk 2,kk 3] (Gb (x0,x1)))]) ((kJb (id:=5000001) () (fun v0 a3 v1=>(kIf (c:=x0.fK !=x1.fK) (kXj (alts:=Gb (x0,x1)) a3 true (.here () rfl (.refl _) (.refl _)))
 (kN _ (mLen (sh:=Qk) x0.fL) fun v2=>(kN _ (mLen (sh:=Qk) x1.fL) fun v3=>(kIf (c:=v2 !=v3) (kXj (alts:=Gb (x0,x1)) a3 true (.here () rfl (.refl _) (.refl _)))
 (kXj (alts:=Gb (x0,x1)) a3 false (.next (.here () rfl (.refl _) (.refl _)))))))))
 (fun v0=>(kEr (enc:=eB) false))
 (fun v0=>(kL2 () (hL:=(FM x0 x1 0)) (hA:=fun v6 v8=>(kEr (enc:=eB) true))
 (hB:=fun v6 v9=>(kEr (enc:=eB) v9))))) h)
def UP(s:((List gLin)× (List gLin)))(u:Unit)(o:Unit ⊕ Bool):List Alt:=lp o (.exit 0) (fun _=>[.undef]) (fun _=>[]) .ret (fun x=>[.bool x]) (fun _=>[])
def Y5(x0:List gLin)(x1:List gLin)(x5:Int):Option (Unit ⊕ Bool):=
 some (List.length x0:Int)>>=fun v0=>
 if x5<v0 then
 ix x0 x5>>=fun v1=>
 ix x1 x5>>=fun v2=>
 Gy v1 v2>>=fun v3=>if v3 then
 Y5 x0 x1 (wr (x5+1))
 else
 some (.inr false)
 else
 some (.inl ())
 partial_fixpoint
theorem Au(x0 x1 x5 o)(h:Y5 x0 x1 x5=some o):LO 153 4 27 [0,1,5] [.sl 2 (List.map Qe x0),.sl 2 (List.map Qe x1),ii x5] [] [4] (UP (x0,x1) () o):=
 Y5.partial_correctness x0 x1 (fun x5 o=>LO 153 4 27 [0,1,5] [.sl 2 (List.map Qe x0),.sl 2 (List.map Qe x1),ii x5] [] [4] (UP (x0,x1) () o))
 (fun Y5 Q7c x5 o h=>
 Lp2 (hs:=[(13,.n eI 13 none),(14,.split),(19,.e Qe),(23,.e Qe),(25,.cb)]) (kb:=[]) (kbx:=[]) ((kN _ (mLen (sh:=Qe) x0) fun v0=>(kIfD (p:=x5<v0) (kIx (enc:=Qe) (l:=x0) (k:=x5) fun v1=>(kIx (enc:=Qe) (l:=x1) (k:=x5) fun v2=>(kCb (He v1 v2) (kM0 (alts:=UP (x0,x1) ()) (Q7c (wr (x5+1))))
 (kX (alts:=UP (x0,x1) ()) (.inr false) (.next (.here _ rfl (.refl _) (.refl _)))))))
 (kX (alts:=UP (x0,x1) ()) (.inl ()) (.here _ rfl (.refl _) (.refl _))))) h)) x5 o h
def M8(x0:List gLin)(x1:List gLin):Option Bool:=
 some (List.length x0:Int)>>=fun v0=>
 some (List.length x1:Int)>>=fun v1=>
 if v0 !=v1 then
 some false
 else
 some ()>>=fun v2=>
 Y5 x0 x1 0>>=fun v3=>(match v3 with
 | (.inl v4)=>
 some true
 | (.inr v5)=>
 some v5)
theorem BY(x0 x1 r)(h:M8 x0 x1=some r):PU 153 [GI x0,GI x1] (eB r):=
 Pu2 (hs:=[(7,.n eI 7 none),(9,.n eI 9 none),(10,.split),(3000005,.l [] [0,1,5] [] [4] [] (UP (x0,x1)))]) ((kN _ (mLen (sh:=Qe) x0) fun v0=>(kN _ (mLen (sh:=Qe) x1) fun v1=>(kIf (c:=v0 !=v1) (kEr (enc:=eB) false)
 (kL2 () (hL:=(Au x0 x1 0)) (hA:=fun v2 v4=>(kEr (enc:=eB) true))
 (hB:=fun v2 v5=>(kEr (enc:=eB) v5)))))) h)
def Nd(x0:Q7)(x1:Q7):Option Bool:=
 if x0.fu==x1.fu then
 Gy x0.fj x1.fj>>=fun v0=>if v0 then
 M8 x0.fAt x1.fAt>>=fun v1=>
 some v1
 else
 some false
 else
 some false
theorem PN(x0 x1 r)(h:Nd x0 x1=some r):PU 114 [Q2 x0,Q2 x1] (eB r):=
 Pu2 (hs:=[(9,.split),(15,.cb),(22,.c eB)]) ((kIf (c:=x0.fu==x1.fu) (kCb (He x0.fj x1.fj) (kC (sh:=eB) (BY x0.fAt x1.fAt) fun v1=>(kEr (enc:=eB) v1))
 (kEr (enc:=eB) false))
 (kEr (enc:=eB) false)) h)
def VG(s:((List Q7)× (List Q7)))(u:Unit)(o:Unit ⊕ Bool):List Alt:=lp o (.exit 0) (fun _=>[.undef]) (fun _=>[]) .ret (fun x=>[.bool x]) (fun _=>[])
def ZI(x0:List Q7)(x1:List Q7)(x5:Int):Option (Unit ⊕ Bool):=
 some (List.length x0:Int)>>=fun v0=>
 if x5<v0 then
 ix x0 x5>>=fun v1=>
 ix x1 x5>>=fun v2=>
 Nd v1 v2>>=fun v3=>if v3 then
 ZI x0 x1 (wr (x5+1))
 else
 some (.inr false)
 else
 some (.inl ())
 partial_fixpoint
theorem RH(x0 x1 x5 o)(h:ZI x0 x1 x5=some o):LO 70 4 27 [0,1,5] [.sl 4 (List.map Q2 x0),.sl 4 (List.map Q2 x1),ii x5] [] [4] (VG (x0,x1) () o):=
 ZI.partial_correctness x0 x1 (fun x5 o=>LO 70 4 27 [0,1,5] [.sl 4 (List.map Q2 x0),.sl 4 (List.map Q2 x1),ii x5] [] [4] (VG (x0,x1) () o))
 (fun ZI Q78 x5 o h=>
 Lp2 (hs:=[(13,.n eI 13 none),(14,.split),(19,.e Q2),(23,.e Q2),(25,.cb)]) (kb:=[]) (kbx:=[]) ((kN _ (mLen (sh:=Q2) x0) fun v0=>(kIfD (p:=x5<v0) (kIx (enc:=Q2) (l:=x0) (k:=x5) fun v1=>(kIx (enc:=Q2) (l:=x1) (k:=x5) fun v2=>(kCb (PN v1 v2) (kM0 (alts:=VG (x0,x1) ()) (Q78 (wr (x5+1))))
 (kX (alts:=VG (x0,x1) ()) (.inr false) (.next (.here _ rfl (.refl _) (.refl _)))))))
 (kX (alts:=VG (x0,x1) ()) (.inl ()) (.here _ rfl (.refl _) (.refl _))))) h)) x5 o h
def Jd(x0:List Q7)(x1:List Q7):Option Bool:=
 some (List.length x0:Int)>>=fun v0=>
 some (List.length x1:Int)>>=fun v1=>
 if v0 !=v1 then
 some false
 else
 some ()>>=fun v2=>
 ZI x0 x1 0>>=fun v3=>(match v3 with
 | (.inl v4)=>
 some true
 | (.inr v5)=>
 some v5)
theorem IF(x0 x1 r)(h:Jd x0 x1=some r):PU 70 [YB x0,YB x1] (eB r):=
 Pu2 (hs:=[(7,.n eI 7 none),(9,.n eI 9 none),(10,.split),(3000005,.l [] [0,1,5] [] [4] [] (VG (x0,x1)))]) ((kN _ (mLen (sh:=Q2) x0) fun v0=>(kN _ (mLen (sh:=Q2) x1) fun v1=>(kIf (c:=v0 !=v1) (kEr (enc:=eB) false)
 (kL2 () (hL:=(RH x0 x1 0)) (hA:=fun v2 v4=>(kEr (enc:=eB) true))
 (hB:=fun v2 v5=>(kEr (enc:=eB) v5)))))) h)
def U2(s:((List Qa)× (List Qa)))(u:Unit)(o:Unit ⊕ Bool):List Alt:=lp o (.exit 0) (fun _=>[.undef]) (fun _=>[]) .ret (fun x=>[.bool x]) (fun _=>[])
mutual
def Kl(x0:Q1)(x1:Q1):Option Bool:=
 if x0.fOp==x1.fOp then
 if x0.fa==x1.fa then
 if x0.fx.fN==x1.fx.fN&& (x0.fx.fD==x1.fx.fD&&true) then
 if x0.fd.fk==x1.fd.fk&& (x0.fd.fm==x1.fd.fm&& (x0.fd.fv==x1.fd.fv&& (x0.fd.fo==x1.fd.fo&& (x0.fd.fw==x1.fd.fw&&true)))) then
 Gy x0.fj x1.fj>>=fun v0=>if v0 then
 Jd x0.fe x1.fe>>=fun v1=>if v1 then
 G3 x0.ff x1.ff>>=fun v2=>
 some v2
 else
 some false
 else
 some false
 else
 some false
 else
 some false
 else
 some false
 else
 some false
 partial_fixpoint
def G3(x0:List Qa)(x1:List Qa):Option Bool:=
 some (List.length x0:Int)>>=fun v0=>
 some (List.length x1:Int)>>=fun v1=>
 if v0 !=v1 then
 some false
 else
 some ()>>=fun v2=>
 Xa x0 x1 0>>=fun v3=>(match v3 with
 | (.inl v4)=>
 some true
 | (.inr v5)=>
 some v5)
 partial_fixpoint
def Xa(x0:List Qa)(x1:List Qa)(x5:Int):Option (Unit ⊕ Bool):=
 some (List.length x0:Int)>>=fun v0=>
 if x5<v0 then
 Option.map Qa.f (ix x0 x5)>>=fun v1=>
 Option.map Qa.f (ix x1 x5)>>=fun v2=>
 Kl v1 v2>>=fun v3=>if v3 then
 Xa x0 x1 (wr (x5+1))
 else
 some (.inr false)
 else
 some (.inl ())
 partial_fixpoint
end
theorem PL:(∀(x0:Q1) (x1:Q1) (r:Bool),Kl x0 x1=some r→PU 25 [Q5 x0,Q5 x1] (eB r))∧(∀(x0:List Qa) (x1:List Qa) (r:Bool),G3 x0 x1=some r→PU 71 [YO x0,YO x1] (eB r))∧(∀(x0:List Qa) (x1:List Qa) (x5:Int) (o:Unit ⊕ Bool),Xa x0 x1 x5=some o→LO 71 4 27 [0,1,5] [.sl 13 (List.map Qi x0),.sl 13 (List.map Qi x1),ii x5] [] [4] (U2 (x0,x1) () o)):=
 Kl.mutual_partial_correctness _ _ _
 (fun G3 Q75 x0 x1 r h=>
 Pu2 (hs:=[(9,.split),(15,.split),(22,.split),(29,.split),(36,.cb),(43,.cb),(50,.c eB)]) ((kIf (c:=x0.fOp==x1.fOp) (kIf (c:=x0.fa==x1.fa) (kIf (c:=x0.fx.fN==x1.fx.fN&& (x0.fx.fD==x1.fx.fD&&true)) (kIf (c:=x0.fd.fk==x1.fd.fk&& (x0.fd.fm==x1.fd.fm&& (x0.fd.fv==x1.fd.fv&& (x0.fd.fo==x1.fd.fo&& (x0.fd.fw==x1.fd.fw&&true))))) (kCb (He x0.fj x1.fj) (kCb (IF x0.fe x1.fe) (kC (sh:=eB) (Q75 x0.ff x1.ff) fun v2=>(kEr (enc:=eB) v2))
 (kEr (enc:=eB) false))
 (kEr (enc:=eB) false))
 (kEr (enc:=eB) false))
 (kEr (enc:=eB) false))
 (kEr (enc:=eB) false))
 (kEr (enc:=eB) false)) h))
 (fun Xa Q76 x0 x1 r h=>
 Pu2 (hs:=[(7,.n eI 7 none),(9,.n eI 9 none),(10,.split),(3000005,.l [] [0,1,5] [] [4] [] (U2 (x0,x1)))]) ((kN _ (mLen (sh:=Qi) x0) fun v0=>(kN _ (mLen (sh:=Qi) x1) fun v1=>(kIf (c:=v0 !=v1) (kEr (enc:=eB) false)
 (kL2 () (hL:=(Q76 x0 x1 0)) (hA:=fun v2 v4=>(kEr (enc:=eB) true))
 (hB:=fun v2 v5=>(kEr (enc:=eB) v5)))))) h))
 (fun Kl Xa Q74 Q76 x0 x1 x5 o h=>
 Lp2 (hs:=[(13,.n eI 13 none),(14,.split),(19,.e Q5),(23,.e Q5),(25,.cb)]) (kb:=[]) (kbx:=[]) ((kN _ (mLen (sh:=Qi) x0) fun v0=>(kIfD (p:=x5<v0) (kIxR (l:=x0) (k:=x5) XH fun v1=>(kIxR (l:=x1) (k:=x5) XH fun v2=>(kCb (Q74 v1 v2) (kM0 (alts:=U2 (x0,x1) ()) (Q76 x0 x1 (wr (x5+1))))
 (kX (alts:=U2 (x0,x1) ()) (.inr false) (.next (.here _ rfl (.refl _) (.refl _)))))))
 (kX (alts:=U2 (x0,x1) ()) (.inl ()) (.here _ rfl (.refl _) (.refl _))))) h))
theorem RY(x0 x1 r)(h:Kl x0 x1=some r):PU 25 [Q5 x0,Q5 x1] (eB r):=(PL).1 x0 x1 r h
def UU(s:((List Q0)×Int))(u:Unit)(o:Int):List Alt:=l1 o (.exit 0) (fun x=>[ii x]) (fun _=>[])
def Jv(s:((List Q0)×Int))(u:(Int×Int))(o:Bool):List Alt:=jb o (fun b=>[.sl 20 (List.map Q6 (s.1)),ii (s.2),ii (u.1),ii (u.2),.bool b]) []
mutual
def VP(x0:List Q0)(x1:Int):Option Int:=
 some ()>>=fun v0=>
 XE x0 x1 0 0>>=fun v2=>
 some v2
 partial_fixpoint
def XE(x0:List Q0)(x1:Int)(x5:Int)(x6:Int):Option Int:=
 some (x5,x6)>>=fun v0=>
 (some (List.length x0:Int)>>=fun v2=>
 if x6<v2 then
 if 0<x1 then
 some true
 else
 some false
 else
 some false)>>=fun v1=>if v1 then
 Option.map Q0.f (ix x0 v0.snd)>>=fun v4=>
 VP v4.fb (wr (x1 - (1:Int)))>>=fun v5=>
 XE x0 x1 (if true=true then max v0.fst (wr ((1:Int)+v5)) else min v0.fst (wr ((1:Int)+v5))) (wr (v0.snd+1))
 else
 some v0.fst
 partial_fixpoint
end
theorem An:(∀(x0:List Q0) (x1:Int) (r:Int),VP x0 x1=some r→PU 81 [Qn x0,eI x1] (eI r))∧(∀(x0:List Q0) (x1:Int) (x5:Int) (x6:Int) (o:Int),XE x0 x1 x5 x6=some o→LO 81 3 29 [0,1,5,6] [.sl 20 (List.map Q6 x0),ii x1,ii x5,ii x6] [] [5] (UU (x0,x1) () o)):=
 VP.mutual_partial_correctness _ _
 (fun XE Q9b x0 x1 r h=>
 Pu2 (hs:=[(3000004,.l [] [0,1,5,6] [] [5] [] (UU (x0,x1)))]) ((kL1 () (Q9b x0 x1 0 0) fun v0 v2=>(kEr (enc:=eI) v2)) h))
 (fun VP XE Q9a Q9b x0 x1 x5 x6 o h=>
 Lp2 (hs:=[(9,.n eI 9 none),(10,.split),(13,.split),(20,.e Qp),(25,.c eI),(5000003,.l [] [] [] [0,1,5,6,14] [] (Jv (x0,x1)))]) (kb:=[]) (kbx:=[]) ((kJb (id:=5000003) (x5,x6) (fun v0 a6 v1=>(kN _ (mLen (sh:=Q6) x0) fun v2=>(kIfD (p:=x6<v2) (kIfD (p:=0<x1) (kXj (alts:=Jv (x0,x1)) a6 true (.here () rfl (.refl _) (.refl _)))
 (kXj (alts:=Jv (x0,x1)) a6 false (.next (.here () rfl (.refl _) (.refl _)))))
 (kXj (alts:=Jv (x0,x1)) a6 false (.next (.here () rfl (.refl _) (.refl _)))))))
 (fun v0=>(kIxR (l:=x0) (k:=v0.snd) Z7 fun v4=>(kC (sh:=eI) (Q9a v4.fb (wr (x1 - (1:Int)))) fun v5=>(kM0 (alts:=UU (x0,x1) ()) (Q9b x0 x1 (if true=true then max v0.fst (wr ((1:Int)+v5)) else min v0.fst (wr ((1:Int)+v5))) (wr (v0.snd+1)))))))
 (fun v0=>(kX (alts:=UU (x0,x1) ()) v0.fst (.here _ rfl (.refl _) (.refl _))))) h))
theorem P3(x0 x1 r)(h:VP x0 x1=some r):PU 81 [Qn x0,eI x1] (eI r):=(An).1 x0 x1 r h
def Gx(s:((List Q0)×Int))(u:Unit)(o:Int):List Alt:=l1 o (.exit 0) (fun x=>[ii x]) (fun _=>[])
def Ud(s:((List Q0)×Int))(u:(Int×Int))(o:Bool):List Alt:=jb o (fun b=>[.sl 20 (List.map Q6 (s.1)),ii (s.2),ii (u.1),ii (u.2),.bool b]) []
mutual
def JW(x0:List Q0)(x1:Int):Option Int:=
 some (List.length x0:Int)>>=fun v0=>
 some (v0:Int)>>=fun v1=>
 some ()>>=fun v2=>
 K5 x0 x1 v1 0>>=fun v4=>
 some v4
 partial_fixpoint
def K5(x0:List Q0)(x1:Int)(x5:Int)(x6:Int):Option Int:=
 some (x5,x6)>>=fun v0=>
 (some (List.length x0:Int)>>=fun v2=>
 if x6<v2 then
 if x5≤x1 then
 some true
 else
 some false
 else
 some false)>>=fun v1=>if v1 then
 Option.map Q0.f (ix x0 v0.snd)>>=fun v4=>
 JW v4.fb (if true=true then max (0:Int) (wr (x1 - v0.fst)) else min (0:Int) (wr (x1 - v0.fst)))>>=fun v5=>
 some (wr (v0.fst+v5):Int)>>=fun v6=>
 K5 x0 x1 v6 (wr (v0.snd+1))
 else
 some v0.fst
 partial_fixpoint
end
theorem FK:(∀(x0:List Q0) (x1:Int) (r:Int),JW x0 x1=some r→PU 82 [Qn x0,eI x1] (eI r))∧(∀(x0:List Q0) (x1:Int) (x5:Int) (x6:Int) (o:Int),K5 x0 x1 x5 x6=some o→LO 82 3 33 [0,1,5,6] [.sl 20 (List.map Q6 x0),ii x1,ii x5,ii x6] [] [5] (Gx (x0,x1) () o)):=
 JW.mutual_partial_correctness _ _
 (fun K5 Q9f x0 x1 r h=>
 Pu2 (hs:=[(8,.n eI 8 none),(5,.n eI 5 none),(3000004,.l [] [0,1,5,6] [] [5] [] (Gx (x0,x1)))]) ((kN _ (mLen (sh:=Q6) x0) fun v0=>(kN v0 rfl fun v1=>(kL1 () (Q9f x0 x1 v1 0) fun v2 v4=>(kEr (enc:=eI) v4)))) h))
 (fun JW K5 Q9e Q9f x0 x1 x5 x6 o h=>
 Lp2 (hs:=[(11,.n eI 11 none),(12,.split),(16,.split),(23,.e Qp),(30,.c eI),(5,.n eI 5 none),(5000003,.l [] [] [] [0,1,5,6,17] [] (Ud (x0,x1)))]) (kb:=[]) (kbx:=[]) ((kJb (id:=5000003) (x5,x6) (fun v0 a6 v1=>(kN _ (mLen (sh:=Q6) x0) fun v2=>(kIfD (p:=x6<v2) (kIfD (p:=x5≤x1) (kXj (alts:=Ud (x0,x1)) a6 true (.here () rfl (.refl _) (.refl _)))
 (kXj (alts:=Ud (x0,x1)) a6 false (.next (.here () rfl (.refl _) (.refl _)))))
 (kXj (alts:=Ud (x0,x1)) a6 false (.next (.here () rfl (.refl _) (.refl _)))))))
 (fun v0=>(kIxR (l:=x0) (k:=v0.snd) Z7 fun v4=>(kC (sh:=eI) (Q9e v4.fb (if true=true then max (0:Int) (wr (x1 - v0.fst)) else min (0:Int) (wr (x1 - v0.fst)))) fun v5=>(kN (wr (v0.fst+v5)) rfl fun v6=>(kM0 (alts:=Gx (x0,x1) ()) (Q9f x0 x1 v6 (wr (v0.snd+1))))))))
 (fun v0=>(kX (alts:=Gx (x0,x1) ()) v0.fst (.here _ rfl (.refl _) (.refl _))))) h))
theorem O8(x0 x1 r)(h:JW x0 x1=some r):PU 82 [Qn x0,eI x1] (eI r):=(FK).1 x0 x1 r h
def Lr:Option (List Str):=
 some [[(115:UInt8),(105:UInt8),(122:UInt8),(101:UInt8)],[(119:UInt8),(104:UInt8),(101:UInt8),(114:UInt8),(101:UInt8)],[(105:UInt8),(110:UInt8)],[(100:UInt8),(101:UInt8),(102:UInt8)],[(111:UInt8),(117:UInt8),(116:UInt8)],[(115:UInt8),(117:UInt8),(109:UInt8)],[(112:UInt8),(114:UInt8),(111:UInt8),(100:UInt8)],[(109:UInt8),(105:UInt8),(110:UInt8)],[(109:UInt8),(97:UInt8),(120:UInt8)],[(115:UInt8),(99:UInt8),(97:UInt8),(110:UInt8)],[(111:UInt8),(118:UInt8),(101:UInt8),(114:UInt8)],[(105:UInt8),(102:UInt8)],[(99:UInt8),(97:UInt8),(115:UInt8),(116:UInt8)],[(102:UInt8),(114:UInt8),(97:UInt8),(99:UInt8)],[(105:UInt8),(110:UInt8),(116:UInt8)],[(102:UInt8),(105:UInt8),(120:UInt8)],[(99:UInt8),(101:UInt8),(105:UInt8),(108:UInt8)],[(102:UInt8),(108:UInt8),(111:UInt8),(111:UInt8),(114:UInt8)],[(122:UInt8),(101:UInt8),(114:UInt8),(111:UInt8)],[(101:UInt8),(118:UInt8),(101:UInt8),(110:UInt8)],[(115:UInt8),(97:UInt8),(116:UInt8)],[(119:UInt8),(114:UInt8),(97:UInt8),(112:UInt8)]]
theorem PP(r:List Str)(h:Lr=some r):PU 165 [] (eLS r):=
 Pu2 (hs:=[(0,.z [{slot:=1,own:=1},{slot:=1,fz:=true}] none)]) ((kT (rfl:(22:Nat)=(22:Nat)) (kEr (enc:=eLS) [[(115:UInt8),(105:UInt8),(122:UInt8),(101:UInt8)],[(119:UInt8),(104:UInt8),(101:UInt8),(114:UInt8),(101:UInt8)],[(105:UInt8),(110:UInt8)],[(100:UInt8),(101:UInt8),(102:UInt8)],[(111:UInt8),(117:UInt8),(116:UInt8)],[(115:UInt8),(117:UInt8),(109:UInt8)],[(112:UInt8),(114:UInt8),(111:UInt8),(100:UInt8)],[(109:UInt8),(105:UInt8),(110:UInt8)],[(109:UInt8),(97:UInt8),(120:UInt8)],[(115:UInt8),(99:UInt8),(97:UInt8),(110:UInt8)],[(111:UInt8),(118:UInt8),(101:UInt8),(114:UInt8)],[(105:UInt8),(102:UInt8)],[(99:UInt8),(97:UInt8),(115:UInt8),(116:UInt8)],[(102:UInt8),(114:UInt8),(97:UInt8),(99:UInt8)],[(105:UInt8),(110:UInt8),(116:UInt8)],[(102:UInt8),(105:UInt8),(120:UInt8)],[(99:UInt8),(101:UInt8),(105:UInt8),(108:UInt8)],[(102:UInt8),(108:UInt8),(111:UInt8),(111:UInt8),(114:UInt8)],[(122:UInt8),(101:UInt8),(114:UInt8),(111:UInt8)],[(101:UInt8),(118:UInt8),(101:UInt8),(110:UInt8)],[(115:UInt8),(97:UInt8),(116:UInt8)],[(119:UInt8),(114:UInt8),(97:UInt8),(112:UInt8)]])) h)
def Gj(s:((List Str)×Str))(u:Unit)(o:Unit ⊕ Bool):List Alt:=lp o (.exit 0) (fun _=>[.undef]) (fun _=>[]) .ret (fun x=>[.bool x]) (fun _=>[])
def ZA(x0:List Str)(x1:Str)(x5:Int):Option (Unit ⊕ Bool):=
 some (List.length x0:Int)>>=fun v0=>
 if x5<v0 then
 ix x0 x5>>=fun v1=>
 if v1==x1 then
 some (.inr true)
 else
 ZA x0 x1 (wr (x5+1))
 else
 some (.inl ())
 partial_fixpoint
theorem FL(x0 x1 x5 o)(h:ZA x0 x1 x5=some o):LO 35 2 18 [0,1,5] [.sl 1 (List.map eS x0),.str x1,ii x5] [] [4] (Gj (x0,x1) () o):=
 ZA.partial_correctness x0 x1 (fun x5 o=>LO 35 2 18 [0,1,5] [.sl 1 (List.map eS x0),.str x1,ii x5] [] [4] (Gj (x0,x1) () o))
 (fun ZA Q77 x5 o h=>
 Lp2 (hs:=[(8,.n eI 8 none),(9,.split),(14,.e eS),(17,.split)]) (kb:=[]) (kbx:=[]) ((kN _ (mLen (sh:=eS) x0) fun v0=>(kIfD (p:=x5<v0) (kIx (enc:=eS) (l:=x0) (k:=x5) fun v1=>(kIf (c:=v1==x1) (kX (alts:=Gj (x0,x1) ()) (.inr true) (.next (.here _ rfl (.refl _) (.refl _))))
 (kM0 (alts:=Gj (x0,x1) ()) (Q77 (wr (x5+1))))))
 (kX (alts:=Gj (x0,x1) ()) (.inl ()) (.here _ rfl (.refl _) (.refl _))))) h)) x5 o h
def Vw(x0:List Str)(x1:Str):Option Bool:=
 some ()>>=fun v0=>
 ZA x0 x1 0>>=fun v1=>(match v1 with
 | (.inl v2)=>
 some false
 | (.inr v3)=>
 some v3)
theorem Hd(x0 x1 r)(h:Vw x0 x1=some r):PU 35 [eLS x0,eS x1] (eB r):=
 Pu2 (hs:=[(3000003,.l [] [0,1,5] [] [4] [] (Gj (x0,x1)))]) ((kL2 () (hL:=(FL x0 x1 0)) (hA:=fun v0 v2=>(kEr (enc:=eB) false))
 (hB:=fun v0 v3=>(kEr (enc:=eB) v3))) h)
def UQ(s:Str)(u:Unit)(o:Unit ⊕ Bool):List Alt:=lp o (.exit 0) (fun _=>[.undef]) (fun _=>[]) .ret (fun x=>[.bool x]) (fun _=>[])
def QL(s:Str)(u:Int)(o:Bool):List Alt:=jb o (fun b=>[.str s,ii u,.bool b]) []
def Y6(x0:Str)(x3:Int):Option (Unit ⊕ Bool):=
 if x3< (↑(List.length x0):Int) then
 ix x0 x3>>=fun v0=>
 some x3>>=fun v1=>
 (if 97≤(↑v0.toNat:Int) then
 if(↑v0.toNat:Int)≤122 then
 some false
 else
 if 0<x3 then
 if 48≤(↑v0.toNat:Int) then
 if(↑v0.toNat:Int)≤57 then
 some false
 else
 if(↑v0.toNat:Int)==95 then
 some false
 else
 some true
 else
 if(↑v0.toNat:Int)==95 then
 some false
 else
 some true
 else
 some true
 else
 if 0<x3 then
 if 48≤(↑v0.toNat:Int) then
 if(↑v0.toNat:Int)≤57 then
 some false
 else
 if(↑v0.toNat:Int)==95 then
 some false
 else
 some true
 else
 if(↑v0.toNat:Int)==95 then
 some false
 else
 some true
 else
 some true)>>=fun v2=>if v2 then
 some (.inr false)
 else
 Y6 x0 (wr (v1+1))
 else
 some (.inl ())
 partial_fixpoint
theorem Av(x0 x3 o)(h:Y6 x0 x3=some o):LO 123 4 50 [0,3] [.str x0,ii x3] [] [2] (UQ x0 () o):=
 Y6.partial_correctness x0 (fun x3 o=>LO 123 4 50 [0,3] [.str x0,ii x3] [] [2] (UQ x0 () o))
 (fun Y6 Q7d x3 o h=>
 Lp2 (hs:=[(21,.split),(26,.u),(28,.split),(31,.split),(35,.split),(38,.split),(41,.split),(45,.split),(5000007,.l [] [] [] [0,3,49] [] (QL x0))]) (kb:=[]) (kbx:=[]) ((kIfD (p:=x3< (↑(List.length x0):Int)) (kU (s:=x0) (k:=x3) fun v0=>(kJb (id:=5000007) x3 (fun v1 a3 v2=>(kIfD (p:=97≤(↑v0.toNat:Int)) (kIfD (p:=(↑v0.toNat:Int)≤122) (kXj (alts:=QL x0) a3 false (.next (.here () rfl (.refl _) (.refl _))))
 (kIfD (p:=0<x3) (kIfD (p:=48≤(↑v0.toNat:Int)) (kIfD (p:=(↑v0.toNat:Int)≤57) (kXj (alts:=QL x0) a3 false (.next (.here () rfl (.refl _) (.refl _))))
 (kIf (c:=(↑v0.toNat:Int)==95) (kXj (alts:=QL x0) a3 false (.next (.here () rfl (.refl _) (.refl _))))
 (kXj (alts:=QL x0) a3 true (.here () rfl (.refl _) (.refl _)))))
 (kIf (c:=(↑v0.toNat:Int)==95) (kXj (alts:=QL x0) a3 false (.next (.here () rfl (.refl _) (.refl _))))
 (kXj (alts:=QL x0) a3 true (.here () rfl (.refl _) (.refl _)))))
 (kXj (alts:=QL x0) a3 true (.here () rfl (.refl _) (.refl _)))))
 (kIfD (p:=0<x3) (kIfD (p:=48≤(↑v0.toNat:Int)) (kIfD (p:=(↑v0.toNat:Int)≤57) (kXj (alts:=QL x0) a3 false (.next (.here () rfl (.refl _) (.refl _))))
 (kIf (c:=(↑v0.toNat:Int)==95) (kXj (alts:=QL x0) a3 false (.next (.here () rfl (.refl _) (.refl _))))
 (kXj (alts:=QL x0) a3 true (.here () rfl (.refl _) (.refl _)))))
 (kIf (c:=(↑v0.toNat:Int)==95) (kXj (alts:=QL x0) a3 false (.next (.here () rfl (.refl _) (.refl _))))
 (kXj (alts:=QL x0) a3 true (.here () rfl (.refl _) (.refl _)))))
 (kXj (alts:=QL x0) a3 true (.here () rfl (.refl _) (.refl _))))))
 (fun v1=>(kX (alts:=UQ x0 ()) (.inr false) (.next (.here _ rfl (.refl _) (.refl _)))))
 (fun v1=>(kM0 (alts:=UQ x0 ()) (Q7d (wr (v1+1)))))))
 (kX (alts:=UQ x0 ()) (.inl ()) (.here _ rfl (.refl _) (.refl _)))) h)) x3 o h
def Vp(s:Str)(u:Unit)(o:Bool):List Alt:=jb o (fun b=>[.str s,.bool b]) []
def UI(x0:Str):Option Bool:=
 some ()>>=fun v0=>
 (if(↑(List.length x0):Int)<1 then
 some true
 else
 if 16< (↑(List.length x0):Int) then
 some true
 else
 Lr>>=fun v2=>
 Vw v2 x0>>=fun v3=>if v3 then
 some true
 else
 some false)>>=fun v1=>if v1 then
 some false
 else
 some ()>>=fun v6=>
 Y6 x0 0>>=fun v7=>(match v7 with
 | (.inl v8)=>
 some true
 | (.inr v9)=>
 some v9)
theorem Wg(x0 r)(h:UI x0=some r):PU 123 [eS x0] (eB r):=
 Pu2 (hs:=[(7,.split),(11,.split),(14,.c eLS),(16,.cb),(3000005,.l [] [0,3] [] [2] [] (UQ x0)),(5000001,.l [] [] [] [0,17] [] (Vp x0))]) ((kJb (id:=5000001) () (fun v0 a3 v1=>(kIfD (p:=(↑(List.length x0):Int)<1) (kXj (alts:=Vp x0) a3 true (.here () rfl (.refl _) (.refl _)))
 (kIfD (p:=16< (↑(List.length x0):Int)) (kXj (alts:=Vp x0) a3 true (.here () rfl (.refl _) (.refl _)))
 (kC (sh:=eLS) (PP) fun v2=>(kCb (Hd v2 x0) (kXj (alts:=Vp x0) a3 true (.here () rfl (.refl _) (.refl _)))
 (kXj (alts:=Vp x0) a3 false (.next (.here () rfl (.refl _) (.refl _)))))))))
 (fun v0=>(kEr (enc:=eB) false))
 (fun v0=>(kL2 () (hL:=(Av x0 0)) (hA:=fun v6 v8=>(kEr (enc:=eB) true))
 (hB:=fun v6 v9=>(kEr (enc:=eB) v9))))) h)
def Uw(s:Qc)(u:Unit)(o:Bool):List Alt:=jb o (fun b=>[.ptr 0 0 0,.bool b]) [.cells 0 (Qf s).cells]
def DS(x0:Qc):Option Bool:=
 some ()>>=fun v0=>
 (if x0.fk==1 then
 some true
 else
 if x0.fk==3 then
 some true
 else
 some false)>>=fun v1=>if v1 then
 if x0.fm==0 then
 if x0.fv==0 then
 if x0.fo==0 then
 some (x0.fw==0)
 else
 some false
 else
 some false
 else
 some false
 else
 if x0.fk==2 then
 if 2≤x0.fm then
 if x0.fm≤31 then
 if 0≤x0.fv then
 if x0.fv≤30 then
 if 1≤x0.fo then
 if x0.fo≤4 then
 if x0.fw==1 then
 some true
 else
 some (x0.fw==2)
 else
 some false
 else
 some false
 else
 some false
 else
 some false
 else
 some false
 else
 some false
 else
 some false
theorem Ir(x0 r)(h:DS x0=some r):PU 124 [Qf x0] (eB r):=
 Pu2 (hs:=[(5,.split),(9,.split),(13,.split),(17,.split),(22,.split),(31,.split),(35,.split),(40,.split),(45,.split),(50,.split),(55,.split),(60,.split),(65,.split),(5000001,.l [] [] [] [1,10] [kk 1] (Uw x0))]) ((kJb (id:=5000001) () (fun v0 a3 v1=>(kIf (c:=x0.fk==1) (kXj (alts:=Uw x0) a3 true (.here () rfl (.refl _) (.refl _)))
 (kIf (c:=x0.fk==3) (kXj (alts:=Uw x0) a3 true (.here () rfl (.refl _) (.refl _)))
 (kXj (alts:=Uw x0) a3 false (.next (.here () rfl (.refl _) (.refl _)))))))
 (fun v0=>(kIf (c:=x0.fm==0) (kIf (c:=x0.fv==0) (kIf (c:=x0.fo==0) (kEr (enc:=eB) (x0.fw==0))
 (kEr (enc:=eB) false))
 (kEr (enc:=eB) false))
 (kEr (enc:=eB) false)))
 (fun v0=>(kIf (c:=x0.fk==2) (kIfD (p:=2≤x0.fm) (kIfD (p:=x0.fm≤31) (kIfD (p:=0≤x0.fv) (kIfD (p:=x0.fv≤30) (kIfD (p:=1≤x0.fo) (kIfD (p:=x0.fo≤4) (kIf (c:=x0.fw==1) (kEr (enc:=eB) true)
 (kEr (enc:=eB) (x0.fw==2)))
 (kEr (enc:=eB) false))
 (kEr (enc:=eB) false))
 (kEr (enc:=eB) false))
 (kEr (enc:=eB) false))
 (kEr (enc:=eB) false))
 (kEr (enc:=eB) false))
 (kEr (enc:=eB) false)))) h)
def Yo(s:List Int)(u:Unit)(o:Unit ⊕ Int):List Alt:=lp o (.exit 2) (fun _=>[.undef]) (fun _=>[]) .ret (fun x=>[ii x]) (fun _=>[])
def X1(x0:List Int)(x4:Int)(x5:Int):Option (Unit ⊕ Int):=
 some (List.length x0:Int)>>=fun v0=>
 if x5<v0 then
 ix x0 x5>>=fun v1=>
 if 4096<v1 then
 some (.inr (2:Int))
 else
 ix x0 x5>>=fun v2=>
 some (wr (x4*v2):Int)>>=fun v3=>
 if 4096<v3 then
 some (.inr (2:Int))
 else
 X1 x0 v3 (wr (x5+1))
 else
 some (.inl ())
 partial_fixpoint
theorem Hk(x0 x4 x5 o)(h:X1 x0 x4 x5=some o):LO 125 10 39 [0,4,5] [.sl 1 (List.map eI x0),ii x4,ii x5] [] [2] (Yo x0 () o):=
 X1.partial_correctness x0 (fun x4 x5 o=>LO 125 10 39 [0,4,5] [.sl 1 (List.map eI x0),ii x4,ii x5] [] [2] (Yo x0 () o))
 (fun X1 Q8j x4 x5 o h=>
 Lp2 (hs:=[(22,.n eI 22 none),(23,.split),(28,.e eI),(30,.split),(34,.e eI),(4,.n eI 4 none),(38,.split)]) (kb:=[]) (kbx:=[]) ((kN _ (mLen (sh:=eI) x0) fun v0=>(kIfD (p:=x5<v0) (kIx (enc:=eI) (l:=x0) (k:=x5) fun v1=>(kIfD (p:=4096<v1) (kX (alts:=Yo x0 ()) (.inr (2:Int)) (.next (.here _ rfl (.refl _) (.refl _))))
 (kIx (enc:=eI) (l:=x0) (k:=x5) fun v2=>(kN (wr (x4*v2)) rfl fun v3=>(kIfD (p:=4096<v3) (kX (alts:=Yo x0 ()) (.inr (2:Int)) (.next (.here _ rfl (.refl _) (.refl _))))
 (kM0 (alts:=Yo x0 ()) (Q8j v3 (wr (x5+1)))))))))
 (kX (alts:=Yo x0 ()) (.inl ()) (.here _ rfl (.refl _) (.refl _))))) h)) x4 x5 o h
def KN(s:List Int)(u:Unit)(o:Unit ⊕ Int):List Alt:=lp o (.exit 0) (fun _=>[.sl 1 (List.map eI s),.undef]) (fun _=>[]) .ret (fun x=>[.sl 1 (List.map eI s),ii x]) (fun _=>[])
def Xd(x0:List Int)(x3:Int):Option (Unit ⊕ Int):=
 some (List.length x0:Int)>>=fun v0=>
 if x3<v0 then
 ix x0 x3>>=fun v1=>
 if v1<1 then
 some (.inr (1:Int))
 else
 Xd x0 (wr (x3+1))
 else
 some (.inl ())
 partial_fixpoint
theorem Eb(x0 x3 o)(h:Xd x0 x3=some o):LO 125 4 39 [0,3] [.sl 1 (List.map eI x0),ii x3] [] [0,2] (KN x0 () o):=
 Xd.partial_correctness x0 (fun x3 o=>LO 125 4 39 [0,3] [.sl 1 (List.map eI x0),ii x3] [] [0,2] (KN x0 () o))
 (fun Xd Q8k x3 o h=>
 Lp2 (hs:=[(11,.n eI 11 none),(12,.split),(17,.e eI),(19,.split)]) (kb:=[]) (kbx:=[]) ((kN _ (mLen (sh:=eI) x0) fun v0=>(kIfD (p:=x3<v0) (kIx (enc:=eI) (l:=x0) (k:=x3) fun v1=>(kIfD (p:=v1<1) (kX (alts:=KN x0 ()) (.inr (1:Int)) (.next (.here _ rfl (.refl _) (.refl _))))
 (kM0 (alts:=KN x0 ()) (Q8k (wr (x3+1))))))
 (kX (alts:=KN x0 ()) (.inl ()) (.here _ rfl (.refl _) (.refl _))))) h)) x3 o h
def Dw(x0:List Int):Option Int:=
 some (List.length x0:Int)>>=fun v0=>
 if 6<v0 then
 some (2:Int)
 else
 some ()>>=fun v1=>
 Xd x0 0>>=fun v2=>(match v2 with
 | (.inl v3)=>
 some ((1:Int):Int)>>=fun v4=>
 some ()>>=fun v5=>
 X1 x0 v4 0>>=fun v6=>(match v6 with
 | (.inl v7)=>
 some (0:Int)
 | (.inr v8)=>
 some v8)
 | (.inr v9)=>
 some v9)
theorem Ts(x0 r)(h:Dw x0=some r):PU 125 [eLI x0] (eI r):=
 Pu2 (hs:=[(7,.n eI 7 none),(8,.split),(4,.n eI 4 none),(3000011,.l [] [0,4,5] [] [2] [] (Yo x0)),(3000005,.l [] [0,3] [] [0,2] [] (KN x0))]) ((kN _ (mLen (sh:=eI) x0) fun v0=>(kIfD (p:=6<v0) (kEr (enc:=eI) (2:Int))
 (kL2 () (hL:=(Eb x0 0)) (hA:=fun v1 v3=>(kN (1:Int) rfl fun v4=>(kL2 () (hL:=(Hk x0 v4 0)) (hA:=fun v5 v7=>(kEr (enc:=eI) (0:Int)))
 (hB:=fun v5 v8=>(kEr (enc:=eI) v8)))))
 (hB:=fun v1 v9=>(kEr (enc:=eI) v9))))) h)
def Ub(s:Q9)(u:(Int×Qb))(o:Unit ⊕ Int):List Alt:=lp o (.exit 2) (fun _=>[.ptr 0 0 0,.undef,ii u.1,.ptr 1 0 0]) (fun _=>[.cells 0 (Qj s).cells,.cells 0 (Q4 u.2).cells]) .ret (fun x=>[.ptr 0 0 0,ii x,ii u.1,.ptr 1 0 0]) (fun _=>[.cells 0 (Qj s).cells,.cells 0 (Q4 u.2).cells])
def K3(x1:Q9)(x3:Int)(x4:Qb)(x5:Int):Option (Unit ⊕ Int):=
 if x5<x3 then
 ix x1.fc x5>>=fun v0=>
 if v0.fa==x4.fa then
 some (.inr (8:Int))
 else
 K3 x1 x3 x4 (wr (x5+1))
 else
 some (.inl ())
 partial_fixpoint
theorem Sj(x1 x3 x4 x5 o)(h:K3 x1 x3 x4 x5=some o):LO 83 8 55 [1,3,4,5] [.ptr 0 0 0,ii x3,.ptr 1 0 0,ii x5] [.cells 0 (Qj x1).cells,.cells 0 (Q4 x4).cells] [1,2,3,4] (Ub x1 (x3,x4) o):=
 K3.partial_correctness x1 x3 x4 (fun x5 o=>LO 83 8 55 [1,3,4,5] [.ptr 0 0 0,ii x3,.ptr 1 0 0,ii x5] [.cells 0 (Qj x1).cells,.cells 0 (Q4 x4).cells] [1,2,3,4] (Ub x1 (x3,x4) o))
 (fun K3 Q99 x5 o h=>
 Lp2 (hs:=[(25,.split),(31,.e Q4),(36,.split)]) (kb:=[kk 1,kk 4]) (kbx:=[kk 1,kk 4]) ((kIfD (p:=x5<x3) (kIx (enc:=Q4) (l:=x1.fc) (k:=x5) fun v0=>(kIf (c:=v0.fa==x4.fa) (kX (alts:=Ub x1 (x3,x4)) (.inr (8:Int)) (.next (.here _ rfl (.refl _) (.refl _))))
 (kM0 (alts:=Ub x1 (x3,x4)) (Q99 (wr (x5+1))))))
 (kX (alts:=Ub x1 (x3,x4)) (.inl ()) (.here _ rfl (.refl _) (.refl _)))) h)) x5 o h
def Ya(s:Q9)(u:Unit)(o:Unit ⊕ Int):List Alt:=lp o (.exit 0) (fun _=>[.undef]) (fun _=>[]) .ret (fun x=>[ii x]) (fun _=>[])
def Ua(s:Q9)(u:Int)(o:Bool):List Alt:=jb o (fun b=>[.ptr 0 0 0,ii u,.bool b]) [.cells 0 (Qj s).cells]
def K2(x1:Q9)(x3:Int):Option (Unit ⊕ Int):=
 some (List.length x1.fc:Int)>>=fun v0=>
 if x3<v0 then
 ix x1.fc x3>>=fun v1=>
 UI v1.fa>>=fun v2=>if v2 then
 some (x3,v1)>>=fun v3=>
 K3 x1 x3 v1 0>>=fun v4=>(match v4 with
 | (.inl v5)=>
 DS v3.snd.fd>>=fun v6=>if v6 then
 Dw v3.snd.fC>>=fun v7=>
 if v7 !=0 then
 some (.inr v7)
 else
 some v3.fst>>=fun v8=>
 (if v3.snd.fF<1 then
 some true
 else
 if 3<v3.snd.fF then
 some true
 else
 some false)>>=fun v9=>if v9 then
 some (.inr (1:Int))
 else
 K2 x1 (wr (v8+1))
 else
 some (.inr (10:Int))
 | (.inr v12)=>
 some (.inr v12))
 else
 some (.inr (7:Int))
 else
 some (.inl ())
 partial_fixpoint
theorem Si(x1 x3 o)(h:K2 x1 x3=some o):LO 83 2 55 [1,3] [.ptr 0 0 0,ii x3] [.cells 0 (Qj x1).cells] [2] (Ya x1 () o):=
 K2.partial_correctness x1 (fun x3 o=>LO 83 2 55 [1,3] [.ptr 0 0 0,ii x3] [.cells 0 (Qj x1).cells] [2] (Ya x1 () o))
 (fun K2 Q98 x3 o h=>
 Lp2 (hs:=[(10,.n eI 10 none),(11,.split),(17,.e Q4),(21,.cb),(39,.cb),(43,.c eI),(45,.split),(49,.split),(53,.split),(3000009,.l [] [1,3,4,5] [kk 1,kk 4] [1,2,3,4] [kk 1,kk 4] (Ub x1)),(5000017,.l [] [] [] [1,3,54] [kk 1] (Ua x1))]) (kb:=[kk 1]) (kbx:=[]) ((kN _ (mLen (sh:=Q4) x1.fc) fun v0=>(kIfD (p:=x3<v0) (kIx (enc:=Q4) (l:=x1.fc) (k:=x3) fun v1=>(kCb (Wg v1.fa) (kL2 (x3,v1) (hL:=(Sj x1 x3 v1 0)) (hA:=fun v3 v5=>(kCb (Ir v3.snd.fd) (kC (sh:=eI) (Ts v3.snd.fC) fun v7=>(kIf (c:=v7 !=0) (kX (alts:=Ya x1 ()) (.inr v7) (.next (.here _ rfl (.refl _) (.refl _))))
 (kJb (id:=5000017) v3.fst (fun v8 a4 v9=>(kIfD (p:=v3.snd.fF<1) (kXj (alts:=Ua x1) a4 true (.here () rfl (.refl _) (.refl _)))
 (kIfD (p:=3<v3.snd.fF) (kXj (alts:=Ua x1) a4 true (.here () rfl (.refl _) (.refl _)))
 (kXj (alts:=Ua x1) a4 false (.next (.here () rfl (.refl _) (.refl _)))))))
 (fun v8=>(kX (alts:=Ya x1 ()) (.inr (1:Int)) (.next (.here _ rfl (.refl _) (.refl _)))))
 (fun v8=>(kM0 (alts:=Ya x1 ()) (Q98 (wr (v8+1))))))))
 (kX (alts:=Ya x1 ()) (.inr (10:Int)) (.next (.here _ rfl (.refl _) (.refl _))))))
 (hB:=fun v3 a7=>(kX (alts:=Ya x1 ()) (.inr a7) (.next (.here _ rfl (.refl _) (.refl _))))))
 (kX (alts:=Ya x1 ()) (.inr (7:Int)) (.next (.here _ rfl (.refl _) (.refl _))))))
 (kX (alts:=Ya x1 ()) (.inl ()) (.here _ rfl (.refl _) (.refl _))))) h)) x3 o h
def Nm(x0:Q9):Option Int:=
 some ()>>=fun v0=>
 K2 x0 0>>=fun v1=>(match v1 with
 | (.inl v2)=>
 some (0:Int)
 | (.inr v3)=>
 some v3)
theorem O5(x0 r)(h:Nm x0=some r):PU 83 [Qj x0] (eI r):=
 Pu2 (hs:=[(3000003,.l [] [1,3] [kk 1] [2] [] (Ya x0))]) ((kL2 () (hL:=(Si x0 0)) (hA:=fun v0 v2=>(kEr (enc:=eI) (0:Int)))
 (hB:=fun v0 v3=>(kEr (enc:=eI) v3))) h)
def GR(s:Qg)(u:(Bool×Bool))(o:Bool):List Alt:=l1 o .normal (fun x=>[.ptr 0 0 0,.bool (u.1),.bool (u.2),.bool x]) (fun _=>[.cells 0 (Qp s).cells])
def KR(s:Qg)(u:(Bool×Bool×Bool))(o:Bool):List Alt:=jb o (fun b=>[.ptr 0 0 0,.bool (u.1),.bool (u.2.1),.bool (u.2.2),.bool b]) [.cells 0 (Qp s).cells]
def Qx(s:Qg)(u:(Bool×Bool))(o:Bool):List Alt:=jb o (fun b=>[.ptr 0 0 0,.bool (u.1),.bool (u.2),.bool b]) [.cells 0 (Qp s).cells]
def X5(s:Qg)(u:Bool)(o:Bool):List Alt:=jb o (fun b=>[.ptr 0 0 0,.bool u,.bool b]) [.cells 0 (Qp s).cells]
def WD(x0:Qg):Option Bool:=
 some ((x0.fOp==1),(x0.fOp==4))>>=fun v0=>
 (if x0.fOp==2 then
 some true
 else
 some (x0.fOp==3))>>=fun v2=>
 some (v0.fst,v0.snd,v2)>>=fun v3=>
 (if v0.fst then
 some false
 else
 if v0.snd then
 some false
 else
 if v2 then
 some false
 else
 some true)>>=fun v4=>if v4 then
 some false
 else
 some (v3.fst,v3.snd.snd)>>=fun v7=>
 (if v3.fst then
 if x0.fOp !=3 then
 if x0.fA !=0 then
 some true
 else
 if v3.snd.fst then
 if !x0.fa==[] then
 some true
 else
 some false
 else
 some false
 else
 if v3.snd.fst then
 if !x0.fa==[] then
 some true
 else
 some false
 else
 some false
 else
 if x0.fy !=0 then
 some true
 else
 if x0.fB !=0 then
 some true
 else
 if x0.fOp !=3 then
 if x0.fA !=0 then
 some true
 else
 if v3.snd.fst then
 if !x0.fa==[] then
 some true
 else
 some false
 else
 some false
 else
 if v3.snd.fst then
 if !x0.fa==[] then
 some true
 else
 some false
 else
 some false)>>=fun v8=>if v8 then
 some false
 else
 some v7.fst>>=fun a7=>
 (if v7.snd then
 if v7.snd then
 some (List.length x0.fb:Int)>>=fun a9=>
 if 0<a9 then
 some true
 else
 some false
 else
 some false
 else
 some (List.length x0.fe:Int)>>=fun aa=>
 if 0<aa then
 some true
 else
 if v7.snd then
 some (List.length x0.fb:Int)>>=fun ab=>
 if 0<ab then
 some true
 else
 some false
 else
 some false)>>=fun a8=>if a8 then
 some false
 else
 if a7 then
 some ((QS.mk (0:Int) [] (gVal.mk (0:Int) (0:Int)) (Qc.mk (0:Int) (0:Int) (0:Int) (0:Int) (0:Int)) (gLin.mk (0:Int) []) [] []:Q1))>>=fun ac=>
 Kl x0.fg ac>>=fun ad=>
 some ad
 else
 some true
theorem P4(x0 r)(h:WD x0=some r):PU 166 [Qp x0] (eB r):=
 Pu2 (hs:=[(14,.split),(20,.split),(23,.split),(27,.split),(30,.split),(35,.split),(39,.split),(45,.split),(49,.split),(53,.split),(57,.split),(60,.split),(65,.n eI 65 none),(66,.split),(69,.split),(73,.n eI 73 none),(74,.split),(77,.split),(82,.n Q5 82 none),(83,.c eB),(5000002,.l [] [] [] [1,3,4,5] [kk 1] (GR x0)),(5000003,.l [] [] [] [1,3,4,5,29] [kk 1] (KR x0)),(5000005,.l [] [] [] [1,3,5,59] [kk 1] (Qx x0)),(5000007,.l [] [] [] [1,3,76] [kk 1] (X5 x0))]) ((kJ1 (id:=5000002) ((x0.fOp==1),(x0.fOp==4)) (fun v0 a9 v1=>(kIf (c:=x0.fOp==2) (kXj (alts:=GR x0) a9 true (.here _ rfl (.refl _) (.refl _)))
 (kXj (alts:=GR x0) a9 (x0.fOp==3) (.here _ rfl (.refl _) (.refl _)))))
 (fun v0 v2=>(kJb (id:=5000003) (v0.fst,v0.snd,v2) (fun v3 a5 v4=>(kIf (c:=v0.fst) (kXj (alts:=KR x0) a5 false (.next (.here () rfl (.refl _) (.refl _))))
 (kIf (c:=v0.snd) (kXj (alts:=KR x0) a5 false (.next (.here () rfl (.refl _) (.refl _))))
 (kIf (c:=v2) (kXj (alts:=KR x0) a5 false (.next (.here () rfl (.refl _) (.refl _))))
 (kXj (alts:=KR x0) a5 true (.here () rfl (.refl _) (.refl _)))))))
 (fun v3=>(kEr (enc:=eB) false))
 (fun v3=>(kJb (id:=5000005) (v3.fst,v3.snd.snd) (fun v7 a3 v8=>(kIf (c:=v3.fst) (kIf (c:=x0.fOp !=3) (kIf (c:=x0.fA !=0) (kXj (alts:=Qx x0) a3 true (.here () rfl (.refl _) (.refl _)))
 (kIf (c:=v3.snd.fst) (kIf (c:= !x0.fa==[]) (kXj (alts:=Qx x0) a3 true (.here () rfl (.refl _) (.refl _)))
 (kXj (alts:=Qx x0) a3 false (.next (.here () rfl (.refl _) (.refl _)))))
 (kXj (alts:=Qx x0) a3 false (.next (.here () rfl (.refl _) (.refl _))))))
 (kIf (c:=v3.snd.fst) (kIf (c:= !x0.fa==[]) (kXj (alts:=Qx x0) a3 true (.here () rfl (.refl _) (.refl _)))
 (kXj (alts:=Qx x0) a3 false (.next (.here () rfl (.refl _) (.refl _)))))
 (kXj (alts:=Qx x0) a3 false (.next (.here () rfl (.refl _) (.refl _))))))
 (kIf (c:=x0.fy !=0) (kXj (alts:=Qx x0) a3 true (.here () rfl (.refl _) (.refl _)))
 (kIf (c:=x0.fB !=0) (kXj (alts:=Qx x0) a3 true (.here () rfl (.refl _) (.refl _)))
 (kIf (c:=x0.fOp !=3) (kIf (c:=x0.fA !=0) (kXj (alts:=Qx x0) a3 true (.here () rfl (.refl _) (.refl _)))
 (kIf (c:=v3.snd.fst) (kIf (c:= !x0.fa==[]) (kXj (alts:=Qx x0) a3 true (.here () rfl (.refl _) (.refl _)))
 (kXj (alts:=Qx x0) a3 false (.next (.here () rfl (.refl _) (.refl _)))))
 (kXj (alts:=Qx x0) a3 false (.next (.here () rfl (.refl _) (.refl _))))))
 (kIf (c:=v3.snd.fst) (kIf (c:= !x0.fa==[]) (kXj (alts:=Qx x0) a3 true (.here () rfl (.refl _) (.refl _)))
 (kXj (alts:=Qx x0) a3 false (.next (.here () rfl (.refl _) (.refl _)))))
 (kXj (alts:=Qx x0) a3 false (.next (.here () rfl (.refl _) (.refl _))))))))))
 (fun v7=>(kEr (enc:=eB) false))
 (fun v7=>(kJb (id:=5000007) v7.fst (fun a7 a4 ah=>(kIf (c:=v7.snd) (kIf (c:=v7.snd) (kN _ (mLen (sh:=Q6) x0.fb) fun ab=>(kIfD (p:=0<ab) (kXj (alts:=X5 x0) a4 true (.here () rfl (.refl _) (.refl _)))
 (kXj (alts:=X5 x0) a4 false (.next (.here () rfl (.refl _) (.refl _))))))
 (kXj (alts:=X5 x0) a4 false (.next (.here () rfl (.refl _) (.refl _)))))
 (kN _ (mLen (sh:=Q2) x0.fe) fun ac=>(kIfD (p:=0<ac) (kXj (alts:=X5 x0) a4 true (.here () rfl (.refl _) (.refl _)))
 (kIf (c:=v7.snd) (kN _ (mLen (sh:=Q6) x0.fb) fun ad=>(kIfD (p:=0<ad) (kXj (alts:=X5 x0) a4 true (.here () rfl (.refl _) (.refl _)))
 (kXj (alts:=X5 x0) a4 false (.next (.here () rfl (.refl _) (.refl _))))))
 (kXj (alts:=X5 x0) a4 false (.next (.here () rfl (.refl _) (.refl _)))))))))
 (fun a7=>(kEr (enc:=eB) false))
 (fun a7=>(kIf (c:=a7) (kW (sh:=Q5) (QS.mk (0:Int) [] (gVal.mk (0:Int) (0:Int)) (Qc.mk (0:Int) (0:Int) (0:Int) (0:Int) (0:Int)) (gLin.mk (0:Int) []) [] []:Q1) (LeV.agg (.cons lr (.cons lr (.cons lr (.cons lr (.cons lr (.cons lr (.cons lr (.cons lr (.cons lr (.cons lr (.cons (LeV.nil 2) (.cons (LeV.nil 4) (.cons (LeV.nil 13) .nil)))))))))))))) fun ae=>(kC (sh:=eB) (RY x0.fg ae) fun af=>(kEr (enc:=eB) af)))
 (kEr (enc:=eB) true)))))))))) h)
def VK(s:(Str×Q9))(u:Unit)(o:Qb ⊕ (Qb×Bool)):List Alt:=lp o (.exit 0) (fun _=>[.ptr 0 0 0,.undef]) (fun x=>[.cells 0 (Q4 x).cells]) .ret (fun x=>[.ptr 0 0 0,.bool x.2]) (fun x=>[.cells 0 (Q4 x.1).cells])
def XW(x1:Str)(x2:Q9)(x4:Qb)(x6:Int):Option (Qb ⊕ (Qb×Bool)):=
 some (List.length x2.fc:Int)>>=fun v0=>
 if x6<v0 then
 ix x2.fc x6>>=fun v1=>
 if v1.fa==x1 then
 ix x2.fc x6>>=fun v2=>
 some (.inr (v2,true))
 else
 XW x1 x2 x4 (wr (x6+1))
 else
 some (.inl x4)
 partial_fixpoint
theorem RU(x1 x2 x4 x6 o)(h:XW x1 x2 x4 x6=some o):LO 167 2 28 [1,2,4,6] [.str x1,.ptr 0 0 0,.ptr 1 0 0,ii x6] [.cells 0 (Qj x2).cells,.cells 0 (Q4 x4).cells] [4,5] (VK (x1,x2) () o):=
 XW.partial_correctness x1 x2 x4 (fun x6 o=>LO 167 2 28 [1,2,4,6] [.str x1,.ptr 0 0 0,.ptr 1 0 0,ii x6] [.cells 0 (Qj x2).cells,.cells 0 (Q4 x4).cells] [4,5] (VK (x1,x2) () o))
 (fun XW Q8z x6 o h=>
 Lp2 (hs:=[(10,.n eI 10 none),(11,.split),(17,.e Q4),(21,.split),(25,.e Q4)]) (kb:=[kk 2,kk 4]) (kbx:=[kk 4]) ((kN _ (mLen (sh:=Q4) x2.fc) fun v0=>(kIfD (p:=x6<v0) (kIx (enc:=Q4) (l:=x2.fc) (k:=x6) fun v1=>(kIf (c:=v1.fa==x1) (kIx (enc:=Q4) (l:=x2.fc) (k:=x6) fun v2=>(kX (alts:=VK (x1,x2) ()) (.inr (v2,true)) (.next (.here _ rfl (.refl _) (.refl _)))))
 (kM0 (alts:=VK (x1,x2) ()) (Q8z (wr (x6+1))))))
 (kX (alts:=VK (x1,x2) ()) (.inl x4) (.here _ rfl (.refl _) (.refl _))))) h)) x6 o h
def Vj(x0:Q9)(x1:Str):Option (Qb×Bool):=
 some ()>>=fun v0=>
 XW x1 x0 (Qb.mk [] (Qc.mk (0:Int) (0:Int) (0:Int) (0:Int) (0:Int)) [] (0:Int)) (0:Int)>>=fun v1=>(match v1 with
 | (.inl v2)=>
 some ((Qb.mk [] (Qc.mk (0:Int) (0:Int) (0:Int) (0:Int) (0:Int)) [] (0:Int)))>>=fun v3=>
 some (v3,false)
 | (.inr v4)=>
 some (v4.fst,v4.snd))
theorem Dh(x0 x1 r)(h:Vj x0 x1=some r):PU 167 [Qj x0,eS x1] (QE r):=
 Pu2 (hs:=[(27,.n Q4 27 none),(3000003,.l [] [1,2,4,6] [kk 2,kk 4] [4,5] [kk 4] (VK (x1,x0)))]) ((kL2 () (hL:=(fun y hy=>X7.le (.cons lr (.cons lr (.cons lr (.cons lr .nil)))) (.cons (LeB.refl (Box.cells (0:Nat) [AV.sl (8:Nat) (List.map Q4 x0.fc),AV.sl (20:Nat) (List.map Q6 x0.fb)])) (.cons (LeB.cells (0:Nat) (.cons lr (.cons lr (.cons lr (.cons lr (.cons lr (.cons lr (.cons (LeV.nil 1) (.cons lr .nil))))))))) .nil)) (RU x1 x0 (Qb.mk [] (Qc.mk (0:Int) (0:Int) (0:Int) (0:Int) (0:Int)) [] (0:Int)) (0:Int) y hy))) (hA:=fun v0 v2=>(kW (sh:=Q4) (Qb.mk [] (Qc.mk (0:Int) (0:Int) (0:Int) (0:Int) (0:Int)) [] (0:Int)) (LeV.agg (.cons lr (.cons lr (.cons lr (.cons lr (.cons lr (.cons lr (.cons (LeV.nil 1) (.cons lr .nil))))))))) fun v3=>(kEr (enc:=QE) (v3,false))))
 (hB:=fun v0 v4=>(kEr (enc:=QE) (v4.fst,v4.snd)))) h)
def UT(s:(Int×Q1))(u:Unit)(o:Int):List Alt:=l1 o (.exit 0) (fun x=>[ii x]) (fun _=>[])
def Jr(s:(Int×Q1))(u:(Int×Int))(o:Bool):List Alt:=jb o (fun b=>[ii (s.1),.ptr 0 0 0,ii (u.1),ii (u.2),.bool b]) [.cells 0 (Q5 (s.2)).cells]
mutual
def VO(x0:Q1)(x1:Int):Option Int:=
 some ()>>=fun v0=>
 XC x1 x0 1 0>>=fun v2=>
 some v2
 partial_fixpoint
def XC(x1:Int)(x2:Q1)(x5:Int)(x6:Int):Option Int:=
 some (x5,x6)>>=fun v0=>
 (some (List.length x2.ff:Int)>>=fun v2=>
 if x6<v2 then
 if 1<x1 then
 some true
 else
 some false
 else
 some false)>>=fun v1=>if v1 then
 Option.map Qa.f (ix x2.ff v0.snd)>>=fun v4=>
 VO v4 (wr (x1 - (1:Int)))>>=fun v5=>
 XC x1 x2 (if true=true then max v0.fst (wr ((1:Int)+v5)) else min v0.fst (wr ((1:Int)+v5))) (wr (v0.snd+1))
 else
 some v0.fst
 partial_fixpoint
end
theorem Am:(∀(x0:Q1) (x1:Int) (r:Int),VO x0 x1=some r→PU 244 [Q5 x0,eI x1] (eI r))∧(∀(x1:Int) (x2:Q1) (x5:Int) (x6:Int) (o:Int),XC x1 x2 x5 x6=some o→LO 244 3 30 [1,2,5,6] [ii x1,.ptr 0 0 0,ii x5,ii x6] [.cells 0 (Q5 x2).cells] [5] (UT (x1,x2) () o)):=
 VO.mutual_partial_correctness _ _
 (fun XC Q8o x0 x1 r h=>
 Pu2 (hs:=[(3000004,.l [] [1,2,5,6] [kk 2] [5] [] (UT (x1,x0)))]) ((kL1 () (Q8o x1 x0 1 0) fun v0 v2=>(kEr (enc:=eI) v2)) h))
 (fun VO XC Q8n Q8o x1 x2 x5 x6 o h=>
 Lp2 (hs:=[(10,.n eI 10 none),(11,.split),(14,.split),(22,.e Q5),(26,.c eI),(5000003,.l [] [] [] [1,2,5,6,15] [kk 2] (Jr (x1,x2)))]) (kb:=[kk 2]) (kbx:=[]) ((kJb (id:=5000003) (x5,x6) (fun v0 a6 v1=>(kN _ (mLen (sh:=Qi) x2.ff) fun v2=>(kIfD (p:=x6<v2) (kIfD (p:=1<x1) (kXj (alts:=Jr (x1,x2)) a6 true (.here () rfl (.refl _) (.refl _)))
 (kXj (alts:=Jr (x1,x2)) a6 false (.next (.here () rfl (.refl _) (.refl _)))))
 (kXj (alts:=Jr (x1,x2)) a6 false (.next (.here () rfl (.refl _) (.refl _)))))))
 (fun v0=>(kIxR (l:=x2.ff) (k:=v0.snd) XH fun v4=>(kC (sh:=eI) (Q8n v4 (wr (x1 - (1:Int)))) fun v5=>(kM0 (alts:=UT (x1,x2) ()) (Q8o x1 x2 (if true=true then max v0.fst (wr ((1:Int)+v5)) else min v0.fst (wr ((1:Int)+v5))) (wr (v0.snd+1)))))))
 (fun v0=>(kX (alts:=UT (x1,x2) ()) v0.fst (.here _ rfl (.refl _) (.refl _))))) h))
theorem FV(x0 x1 r)(h:VO x0 x1=some r):PU 244 [Q5 x0,eI x1] (eI r):=(Am).1 x0 x1 r h
def ML(x0:Q1):Option Int:=
 VO x0 41>>=fun v0=>
 some v0
theorem FU(x0 r)(h:ML x0=some r):PU 211 [Q5 x0] (eI r):=
 Pu2 (hs:=[(4,.c eI)]) ((kC (sh:=eI) (FV x0 41) fun v0=>(kEr (enc:=eI) v0)) h)
def Gv(s:(Int×Q1))(u:Unit)(o:Int):List Alt:=l1 o (.exit 0) (fun x=>[ii x]) (fun _=>[])
def U7(s:(Int×Q1))(u:(Int×Int))(o:Bool):List Alt:=jb o (fun b=>[ii (s.1),.ptr 0 0 0,ii (u.1),ii (u.2),.bool b]) [.cells 0 (Q5 (s.2)).cells]
mutual
def JV(x0:Q1)(x1:Int):Option Int:=
 some ((1:Int):Int)>>=fun v0=>
 some ()>>=fun v1=>
 K0 x1 x0 v0 0>>=fun v3=>
 some v3
 partial_fixpoint
def K0(x1:Int)(x2:Q1)(x5:Int)(x6:Int):Option Int:=
 some (x5,x6)>>=fun v0=>
 (some (List.length x2.ff:Int)>>=fun v2=>
 if x6<v2 then
 if x5≤x1 then
 some true
 else
 some false
 else
 some false)>>=fun v1=>if v1 then
 Option.map Qa.f (ix x2.ff v0.snd)>>=fun v4=>
 JV v4 (wr (x1 - v0.fst))>>=fun v5=>
 some (wr (v0.fst+v5):Int)>>=fun v6=>
 K0 x1 x2 v6 (wr (v0.snd+1))
 else
 some v0.fst
 partial_fixpoint
end
theorem FH:(∀(x0:Q1) (x1:Int) (r:Int),JV x0 x1=some r→PU 245 [Q5 x0,eI x1] (eI r))∧(∀(x1:Int) (x2:Q1) (x5:Int) (x6:Int) (o:Int),K0 x1 x2 x5 x6=some o→LO 245 3 31 [1,2,5,6] [ii x1,.ptr 0 0 0,ii x5,ii x6] [.cells 0 (Q5 x2).cells] [5] (Gv (x1,x2) () o)):=
 JV.mutual_partial_correctness _ _
 (fun K0 Q8x x0 x1 r h=>
 Pu2 (hs:=[(5,.n eI 5 none),(3000004,.l [] [1,2,5,6] [kk 2] [5] [] (Gv (x1,x0)))]) ((kN (1:Int) rfl fun v0=>(kL1 () (Q8x x1 x0 v0 0) fun v1 v3=>(kEr (enc:=eI) v3))) h))
 (fun JV K0 Q8w Q8x x1 x2 x5 x6 o h=>
 Lp2 (hs:=[(10,.n eI 10 none),(11,.split),(15,.split),(23,.e Q5),(28,.c eI),(5,.n eI 5 none),(5000003,.l [] [] [] [1,2,5,6,16] [kk 2] (U7 (x1,x2)))]) (kb:=[kk 2]) (kbx:=[]) ((kJb (id:=5000003) (x5,x6) (fun v0 a6 v1=>(kN _ (mLen (sh:=Qi) x2.ff) fun v2=>(kIfD (p:=x6<v2) (kIfD (p:=x5≤x1) (kXj (alts:=U7 (x1,x2)) a6 true (.here () rfl (.refl _) (.refl _)))
 (kXj (alts:=U7 (x1,x2)) a6 false (.next (.here () rfl (.refl _) (.refl _)))))
 (kXj (alts:=U7 (x1,x2)) a6 false (.next (.here () rfl (.refl _) (.refl _)))))))
 (fun v0=>(kIxR (l:=x2.ff) (k:=v0.snd) XH fun v4=>(kC (sh:=eI) (Q8w v4 (wr (x1 - v0.fst))) fun v5=>(kN (wr (v0.fst+v5)) rfl fun v6=>(kM0 (alts:=Gv (x1,x2) ()) (Q8x x1 x2 v6 (wr (v0.snd+1))))))))
 (fun v0=>(kX (alts:=Gv (x1,x2) ()) v0.fst (.here _ rfl (.refl _) (.refl _))))) h))
theorem O1(x0 x1 r)(h:JV x0 x1=some r):PU 245 [Q5 x0,eI x1] (eI r):=(FH).1 x0 x1 r h
def Nk(x0:Q1):Option Int:=
 JV x0 2000>>=fun v0=>
 some (if false=true then max v0 (2001:Int) else min v0 (2001:Int))
theorem PX(x0 r)(h:Nk x0=some r):PU 212 [Q5 x0] (eI r):=
 Pu2 (hs:=[(4,.c eI)]) ((kC (sh:=eI) (O1 x0 2000) fun v0=>(kEr (enc:=eI) (if false=true then max v0 (2001:Int) else min v0 (2001:Int)))) h)
def J6(s:Q1)(u:Unit)(o:Unit ⊕ Bool):List Alt:=lp o (.exit 0) (fun _=>[.undef]) (fun _=>[]) .ret (fun x=>[.bool x]) (fun _=>[])
def Zv(s:Q1)(u:Int)(o:Bool):List Alt:=jb o (fun b=>[.ptr 0 0 0,ii u,.bool b]) [.cells 0 (Q5 s).cells]
def Ys(x1:Q1)(x3:Int):Option (Unit ⊕ Bool):=
 some (List.length x1.fe:Int)>>=fun v0=>
 if x3<v0 then
 ix x1.fe x3>>=fun v1=>
 some x3>>=fun v2=>
 (if v1.fu==[] then
 some (List.length v1.fAt:Int)>>=fun v4=>
 if 0<v4 then
 some true
 else
 if !v1.fu==[] then
 if v1.fj.fK !=0 then
 some true
 else
 some (List.length v1.fj.fL:Int)>>=fun v5=>
 if 0<v5 then
 some true
 else
 some false
 else
 some false
 else
 if !v1.fu==[] then
 if v1.fj.fK !=0 then
 some true
 else
 some (List.length v1.fj.fL:Int)>>=fun v6=>
 if 0<v6 then
 some true
 else
 some false
 else
 some false)>>=fun v3=>if v3 then
 some (.inr false)
 else
 Ys x1 (wr (v2+1))
 else
 some (.inl ())
 partial_fixpoint
theorem Tv(x1 x3 o)(h:Ys x1 x3=some o):LO 246 8 109 [1,3] [.ptr 0 0 0,ii x3] [.cells 0 (Q5 x1).cells] [2] (J6 x1 () o):=
 Ys.partial_correctness x1 (fun x3 o=>LO 246 8 109 [1,3] [.ptr 0 0 0,ii x3] [.cells 0 (Q5 x1).cells] [2] (J6 x1 () o))
 (fun Ys Q8u x3 o h=>
 Lp2 (hs:=[(73,.n eI 73 none),(74,.split),(80,.e Q2),(84,.split),(88,.n eI 88 none),(89,.split),(94,.split),(99,.split),(104,.n eI 104 none),(105,.split),(5000011,.l [] [] [] [1,3,108] [kk 1] (Zv x1))]) (kb:=[kk 1]) (kbx:=[]) ((kN _ (mLen (sh:=Q2) x1.fe) fun v0=>(kIfD (p:=x3<v0) (kIx (enc:=Q2) (l:=x1.fe) (k:=x3) fun v1=>(kJb (id:=5000011) x3 (fun v2 a3 v3=>(kIf (c:=v1.fu==[]) (kN _ (mLen (sh:=Qe) v1.fAt) fun v4=>(kIfD (p:=0<v4) (kXj (alts:=Zv x1) a3 true (.here () rfl (.refl _) (.refl _)))
 (kIf (c:= !v1.fu==[]) (kIf (c:=v1.fj.fK !=0) (kXj (alts:=Zv x1) a3 true (.here () rfl (.refl _) (.refl _)))
 (kN _ (mLen (sh:=Qk) v1.fj.fL) fun v5=>(kIfD (p:=0<v5) (kXj (alts:=Zv x1) a3 true (.here () rfl (.refl _) (.refl _)))
 (kXj (alts:=Zv x1) a3 false (.next (.here () rfl (.refl _) (.refl _)))))))
 (kXj (alts:=Zv x1) a3 false (.next (.here () rfl (.refl _) (.refl _)))))))
 (kIf (c:= !v1.fu==[]) (kIf (c:=v1.fj.fK !=0) (kXj (alts:=Zv x1) a3 true (.here () rfl (.refl _) (.refl _)))
 (kN _ (mLen (sh:=Qk) v1.fj.fL) fun v6=>(kIfD (p:=0<v6) (kXj (alts:=Zv x1) a3 true (.here () rfl (.refl _) (.refl _)))
 (kXj (alts:=Zv x1) a3 false (.next (.here () rfl (.refl _) (.refl _)))))))
 (kXj (alts:=Zv x1) a3 false (.next (.here () rfl (.refl _) (.refl _)))))))
 (fun v2=>(kX (alts:=J6 x1 ()) (.inr false) (.next (.here _ rfl (.refl _) (.refl _)))))
 (fun v2=>(kM0 (alts:=J6 x1 ()) (Q8u (wr (v2+1)))))))
 (kX (alts:=J6 x1 ()) (.inl ()) (.here _ rfl (.refl _) (.refl _))))) h)) x3 o h
def Ju(s:Q1)(u:Unit)(o:Bool):List Alt:=jb o (fun b=>[.ptr 0 0 0,.bool b]) [.cells 0 (Q5 s).cells]
def Zu(s:Q1)(u:Unit)(o:Bool):List Alt:=jb o (fun b=>[.ptr 0 0 0,.bool b]) [.cells 0 (Q5 s).cells]
def Zc(s:Q1)(u:Unit)(o:Bool):List Alt:=jb o (fun b=>[.ptr 0 0 0,.bool b]) [.cells 0 (Q5 s).cells]
def WA(x0:Q1):Option Bool:=
 some ()>>=fun v0=>
 (if x0.fOp<1 then
 some true
 else
 if 18<x0.fOp then
 some true
 else
 some false)>>=fun v1=>if v1 then
 some false
 else
 some ()>>=fun v4=>
 (if x0.fOp !=1 then
 some ((gVal.mk (0:Int) (0:Int)))>>=fun v6=>
 if !(x0.fx.fN==v6.fN&& (x0.fx.fD==v6.fD&&true)) then
 some true
 else
 if x0.fOp !=1 then
 if x0.fOp !=12 then
 some ((Qc.mk (0:Int) (0:Int) (0:Int) (0:Int) (0:Int)))>>=fun v7=>
 if !(x0.fd.fk==v7.fk&& (x0.fd.fm==v7.fm&& (x0.fd.fv==v7.fv&& (x0.fd.fo==v7.fo&& (x0.fd.fw==v7.fw&&true))))) then
 some true
 else
 some false
 else
 some false
 else
 some false
 else
 if x0.fOp !=1 then
 if x0.fOp !=12 then
 some ((Qc.mk (0:Int) (0:Int) (0:Int) (0:Int) (0:Int)))>>=fun v8=>
 if !(x0.fd.fk==v8.fk&& (x0.fd.fm==v8.fm&& (x0.fd.fv==v8.fv&& (x0.fd.fo==v8.fo&& (x0.fd.fw==v8.fw&&true))))) then
 some true
 else
 some false
 else
 some false
 else
 some false)>>=fun v5=>if v5 then
 some false
 else
 some ()>>=fun ad=>
 (if x0.fOp !=2 then
 if x0.fj.fK !=0 then
 some true
 else
 some (List.length x0.fj.fL:Int)>>=fun a7=>
 if 0<a7 then
 some true
 else
 if x0.fOp !=3 then
 if !x0.fa==[] then
 some true
 else
 some (List.length x0.fe:Int)>>=fun a8=>
 if 0<a8 then
 some true
 else
 some false
 else
 some false
 else
 if x0.fOp !=3 then
 if !x0.fa==[] then
 some true
 else
 some (List.length x0.fe:Int)>>=fun a9=>
 if 0<a9 then
 some true
 else
 some false
 else
 some false)>>=fun a6=>if a6 then
 some false
 else
 some ()>>=fun ae=>
 Ys x0 0>>=fun aa=>(match aa with
 | (.inl v20)=>
 some true
 | (.inr v21)=>
 some v21)
theorem FY(x0 r)(h:WA x0=some r):PU 246 [Q5 x0] (eB r):=
 Pu2 (hs:=[(7,.split),(11,.split),(15,.split),(19,.n Nz 19 none),(20,.split),(25,.split),(29,.split),(34,.n Qf 34 none),(35,.split),(40,.split),(45,.split),(50,.n eI 50 none),(51,.split),(57,.split),(61,.split),(65,.n eI 65 none),(66,.split),(3000009,.l [] [1,3] [kk 1] [2] [] (J6 x0)),(5000001,.l [] [] [] [1,12] [kk 1] (Ju x0)),(5000003,.l [] [] [] [1,37] [kk 1] (Zu x0)),(5000005,.l [] [] [] [1,69] [kk 1] (Zc x0))]) ((kJb (id:=5000001) () (fun v0 a5 v1=>(kIfD (p:=x0.fOp<1) (kXj (alts:=Ju x0) a5 true (.here () rfl (.refl _) (.refl _)))
 (kIfD (p:=18<x0.fOp) (kXj (alts:=Ju x0) a5 true (.here () rfl (.refl _) (.refl _)))
 (kXj (alts:=Ju x0) a5 false (.next (.here () rfl (.refl _) (.refl _)))))))
 (fun v0=>(kEr (enc:=eB) false))
 (fun v0=>(kJb (id:=5000003) () (fun v4 a4 v5=>(kIf (c:=x0.fOp !=1) (kW (sh:=Nz) (gVal.mk (0:Int) (0:Int)) lr fun v6=>(kIf (c:= !(x0.fx.fN==v6.fN&& (x0.fx.fD==v6.fD&&true))) (kXj (alts:=Zu x0) a4 true (.here () rfl (.refl _) (.refl _)))
 (kIf (c:=x0.fOp !=1) (kIf (c:=x0.fOp !=12) (kW (sh:=Qf) (Qc.mk (0:Int) (0:Int) (0:Int) (0:Int) (0:Int)) lr fun v7=>(kIf (c:= !(x0.fd.fk==v7.fk&& (x0.fd.fm==v7.fm&& (x0.fd.fv==v7.fv&& (x0.fd.fo==v7.fo&& (x0.fd.fw==v7.fw&&true)))))) (kXj (alts:=Zu x0) a4 true (.here () rfl (.refl _) (.refl _)))
 (kXj (alts:=Zu x0) a4 false (.next (.here () rfl (.refl _) (.refl _))))))
 (kXj (alts:=Zu x0) a4 false (.next (.here () rfl (.refl _) (.refl _)))))
 (kXj (alts:=Zu x0) a4 false (.next (.here () rfl (.refl _) (.refl _)))))))
 (kIf (c:=x0.fOp !=1) (kIf (c:=x0.fOp !=12) (kW (sh:=Qf) (Qc.mk (0:Int) (0:Int) (0:Int) (0:Int) (0:Int)) lr fun v8=>(kIf (c:= !(x0.fd.fk==v8.fk&& (x0.fd.fm==v8.fm&& (x0.fd.fv==v8.fv&& (x0.fd.fo==v8.fo&& (x0.fd.fw==v8.fw&&true)))))) (kXj (alts:=Zu x0) a4 true (.here () rfl (.refl _) (.refl _)))
 (kXj (alts:=Zu x0) a4 false (.next (.here () rfl (.refl _) (.refl _))))))
 (kXj (alts:=Zu x0) a4 false (.next (.here () rfl (.refl _) (.refl _)))))
 (kXj (alts:=Zu x0) a4 false (.next (.here () rfl (.refl _) (.refl _)))))))
 (fun v4=>(kEr (enc:=eB) false))
 (fun v4=>(kJb (id:=5000005) () (fun a6 a3 ah=>(kIf (c:=x0.fOp !=2) (kIf (c:=x0.fj.fK !=0) (kXj (alts:=Zc x0) a3 true (.here () rfl (.refl _) (.refl _)))
 (kN _ (mLen (sh:=Qk) x0.fj.fL) fun a9=>(kIfD (p:=0<a9) (kXj (alts:=Zc x0) a3 true (.here () rfl (.refl _) (.refl _)))
 (kIf (c:=x0.fOp !=3) (kIf (c:= !x0.fa==[]) (kXj (alts:=Zc x0) a3 true (.here () rfl (.refl _) (.refl _)))
 (kN _ (mLen (sh:=Q2) x0.fe) fun aa=>(kIfD (p:=0<aa) (kXj (alts:=Zc x0) a3 true (.here () rfl (.refl _) (.refl _)))
 (kXj (alts:=Zc x0) a3 false (.next (.here () rfl (.refl _) (.refl _)))))))
 (kXj (alts:=Zc x0) a3 false (.next (.here () rfl (.refl _) (.refl _))))))))
 (kIf (c:=x0.fOp !=3) (kIf (c:= !x0.fa==[]) (kXj (alts:=Zc x0) a3 true (.here () rfl (.refl _) (.refl _)))
 (kN _ (mLen (sh:=Q2) x0.fe) fun ab=>(kIfD (p:=0<ab) (kXj (alts:=Zc x0) a3 true (.here () rfl (.refl _) (.refl _)))
 (kXj (alts:=Zc x0) a3 false (.next (.here () rfl (.refl _) (.refl _)))))))
 (kXj (alts:=Zc x0) a3 false (.next (.here () rfl (.refl _) (.refl _)))))))
 (fun a6=>(kEr (enc:=eB) false))
 (fun a6=>(kL2 () (hL:=(Tv x0 0)) (hA:=fun ac ai=>(kEr (enc:=eB) true))
 (hB:=fun ac ad=>(kEr (enc:=eB) ad))))))))) h)
def J4(s:Q1)(u:Unit)(o:Unit ⊕ Bool):List Alt:=lp o (.exit 0) (fun _=>[.undef]) (fun _=>[]) .ret (fun x=>[.bool x]) (fun _=>[])
def Jt(s:Q1)(u:Int)(o:Bool):List Alt:=jb o (fun b=>[.ptr 0 0 0,ii u,.bool b]) [.cells 0 (Q5 s).cells]
def Yq(x1:Q1)(x3:Int):Option (Unit ⊕ Bool):=
 some (List.length x1.fe:Int)>>=fun v0=>
 if x3<v0 then
 some x3>>=fun v1=>
 (ix x1.fe x3>>=fun v3=>
 if !v3.fu==[] then
 ix x1.fe x3>>=fun v4=>
 UI v4.fu>>=fun v5=>if v5 then
 some false
 else
 some true
 else
 some false)>>=fun v2=>if v2 then
 some (.inr false)
 else
 Yq x1 (wr (v1+1))
 else
 some (.inl ())
 partial_fixpoint
theorem Tu(x1 x3 o)(h:Yq x1 x3=some o):LO 247 4 37 [1,3] [.ptr 0 0 0,ii x3] [.cells 0 (Q5 x1).cells] [2] (J4 x1 () o):=
 Yq.partial_correctness x1 (fun x3 o=>LO 247 4 37 [1,3] [.ptr 0 0 0,ii x3] [.cells 0 (Q5 x1).cells] [2] (J4 x1 () o))
 (fun Yq Q8r x3 o h=>
 Lp2 (hs:=[(16,.n eI 16 none),(17,.split),(23,.e Q2),(26,.split),(31,.e Q2),(34,.cb),(5000006,.l [] [] [] [1,3,36] [kk 1] (Jt x1))]) (kb:=[kk 1]) (kbx:=[]) ((kN _ (mLen (sh:=Q2) x1.fe) fun v0=>(kIfD (p:=x3<v0) (kJb (id:=5000006) x3 (fun v1 a4 v2=>(kIx (enc:=Q2) (l:=x1.fe) (k:=x3) fun v3=>(kIf (c:= !v3.fu==[]) (kIx (enc:=Q2) (l:=x1.fe) (k:=x3) fun v4=>(kCb (Wg v4.fu) (kXj (alts:=Jt x1) a4 false (.next (.here () rfl (.refl _) (.refl _))))
 (kXj (alts:=Jt x1) a4 true (.here () rfl (.refl _) (.refl _)))))
 (kXj (alts:=Jt x1) a4 false (.next (.here () rfl (.refl _) (.refl _)))))))
 (fun v1=>(kX (alts:=J4 x1 ()) (.inr false) (.next (.here _ rfl (.refl _) (.refl _)))))
 (fun v1=>(kM0 (alts:=J4 x1 ()) (Q8r (wr (v1+1))))))
 (kX (alts:=J4 x1 ()) (.inl ()) (.here _ rfl (.refl _) (.refl _))))) h)) x3 o h
def Js(s:Q1)(u:Unit)(o:Bool):List Alt:=jb o (fun b=>[.ptr 0 0 0,.bool b]) [.cells 0 (Q5 s).cells]
def Wz(x0:Q1):Option Bool:=
 some ()>>=fun v0=>
 (if x0.fOp==3 then
 UI x0.fa>>=fun v2=>if v2 then
 some false
 else
 some true
 else
 some false)>>=fun v1=>if v1 then
 some false
 else
 some ()>>=fun v5=>
 Yq x0 0>>=fun v6=>(match v6 with
 | (.inl v7)=>
 some true
 | (.inr v8)=>
 some v8)
theorem FX(x0 r)(h:Wz x0=some r):PU 247 [Q5 x0] (eB r):=
 Pu2 (hs:=[(6,.split),(10,.cb),(3000005,.l [] [1,3] [kk 1] [2] [] (J4 x0)),(5000001,.l [] [] [] [1,12] [kk 1] (Js x0))]) ((kJb (id:=5000001) () (fun v0 a3 v1=>(kIf (c:=x0.fOp==3) (kCb (Wg x0.fa) (kXj (alts:=Js x0) a3 false (.next (.here () rfl (.refl _) (.refl _))))
 (kXj (alts:=Js x0) a3 true (.here () rfl (.refl _) (.refl _))))
 (kXj (alts:=Js x0) a3 false (.next (.here () rfl (.refl _) (.refl _))))))
 (fun v0=>(kEr (enc:=eB) false))
 (fun v0=>(kL2 () (hL:=(Tu x0 0)) (hA:=fun v5 v7=>(kEr (enc:=eB) true))
 (hB:=fun v5 v8=>(kEr (enc:=eB) v8))))) h)
def Vf(s:Unit)(u:Int)(o:Bool):List Alt:=jb o (fun b=>[ii u,.bool b]) []
def Vg(s:Unit)(u:Int)(o:Bool):List Alt:=jb o (fun b=>[ii u,.bool b]) []
def Nl(x0:Int):Option Int:=
 some x0>>=fun v0=>
 (if x0==1 then
 some true
 else
 if x0==2 then
 some true
 else
 if x0==3 then
 some true
 else
 some false)>>=fun v1=>if v1 then
 some (0:Int)
 else
 some v0>>=fun v4=>
 (if v0==8 then
 some true
 else
 if v0==12 then
 some true
 else
 if v0==18 then
 some true
 else
 some false)>>=fun v5=>if v5 then
 some (1:Int)
 else
 if v4==11 then
 some (3:Int)
 else
 some (2:Int)
theorem PY(x0 r)(h:Nl x0=some r):PU 299 [eI x0] (eI r):=
 Pu2 (hs:=[(4,.split),(4,.split),(4,.split),(8,.split),(8,.split),(8,.split),(13,.split),(6000004,.l [] [] [] [3,4] [] (Vf ())),(6000008,.l [] [] [] [3,8] [] (Vg ()))]) ((kJb (id:=6000004) x0 (fun v0 a3 v1=>(kIf (c:=x0==1) (kXj (alts:=Vf ()) a3 true (.here () rfl (.refl _) (.refl _)))
 (kIf (c:=x0==2) (kXj (alts:=Vf ()) a3 true (.here () rfl (.refl _) (.refl _)))
 (kIf (c:=x0==3) (kXj (alts:=Vf ()) a3 true (.here () rfl (.refl _) (.refl _)))
 (kXj (alts:=Vf ()) a3 false (.next (.here () rfl (.refl _) (.refl _))))))))
 (fun v0=>(kEr (enc:=eI) (0:Int)))
 (fun v0=>(kJb (id:=6000008) v0 (fun v4 a4 v5=>(kIf (c:=v0==8) (kXj (alts:=Vg ()) a4 true (.here () rfl (.refl _) (.refl _)))
 (kIf (c:=v0==12) (kXj (alts:=Vg ()) a4 true (.here () rfl (.refl _) (.refl _)))
 (kIf (c:=v0==18) (kXj (alts:=Vg ()) a4 true (.here () rfl (.refl _) (.refl _)))
 (kXj (alts:=Vg ()) a4 false (.next (.here () rfl (.refl _) (.refl _))))))))
 (fun v4=>(kEr (enc:=eI) (1:Int)))
 (fun v4=>(kIf (c:=v4==11) (kEr (enc:=eI) (3:Int))
 (kEr (enc:=eI) (2:Int))))))) h)
def VJ(s:Q1)(u:Unit)(o:Unit ⊕ Bool):List Alt:=lp o (.exit 0) (fun _=>[.undef]) (fun _=>[]) .ret (fun x=>[.bool x]) (fun _=>[])
def XV(x1:Q1)(x3:Int):Option (Unit ⊕ Bool):=
 some (List.length x1.fe:Int)>>=fun v0=>
 if x3<v0 then
 ix x1.fe x3>>=fun v1=>
 some (List.length v1.fAt:Int)>>=fun v2=>
 if 6<v2 then
 some (.inr false)
 else
 XV x1 (wr (x3+1))
 else
 some (.inl ())
 partial_fixpoint
theorem RT(x1 x3 o)(h:XV x1 x3=some o):LO 248 4 32 [1,3] [.ptr 0 0 0,ii x3] [.cells 0 (Q5 x1).cells] [2] (VJ x1 () o):=
 XV.partial_correctness x1 (fun x3 o=>LO 248 4 32 [1,3] [.ptr 0 0 0,ii x3] [.cells 0 (Q5 x1).cells] [2] (VJ x1 () o))
 (fun XV Q8v x3 o h=>
 Lp2 (hs:=[(20,.n eI 20 none),(21,.split),(27,.e Q2),(30,.n eI 30 none),(31,.split)]) (kb:=[kk 1]) (kbx:=[]) ((kN _ (mLen (sh:=Q2) x1.fe) fun v0=>(kIfD (p:=x3<v0) (kIx (enc:=Q2) (l:=x1.fe) (k:=x3) fun v1=>(kN _ (mLen (sh:=Qe) v1.fAt) fun v2=>(kIfD (p:=6<v2) (kX (alts:=VJ x1 ()) (.inr false) (.next (.here _ rfl (.refl _) (.refl _))))
 (kM0 (alts:=VJ x1 ()) (Q8v (wr (x3+1)))))))
 (kX (alts:=VJ x1 ()) (.inl ()) (.here _ rfl (.refl _) (.refl _))))) h)) x3 o h
def VS(s:Q1)(u:Unit)(o:Bool):List Alt:=jb o (fun b=>[.ptr 0 0 0,.bool b]) [.cells 0 (Q5 s).cells]
def CI(x0:Q1):Option Bool:=
 some ()>>=fun v0=>
 (Nl x0.fOp>>=fun v2=>
 some (List.length x0.ff:Int)>>=fun v3=>
 if v3 !=v2 then
 some true
 else
 some (List.length x0.fe:Int)>>=fun v4=>
 if 6<v4 then
 some true
 else
 some false)>>=fun v1=>if v1 then
 some false
 else
 some ()>>=fun v7=>
 XV x0 0>>=fun v8=>(match v8 with
 | (.inl v9)=>
 some true
 | (.inr v10)=>
 some v10)
theorem AF(x0 r)(h:CI x0=some r):PU 248 [Q5 x0] (eB r):=
 Pu2 (hs:=[(6,.n eI 6 none),(9,.c eI),(10,.split),(14,.n eI 14 none),(15,.split),(3000005,.l [] [1,3] [kk 1] [2] [] (VJ x0)),(5000001,.l [] [] [] [1,16] [kk 1] (VS x0))]) ((kJb (id:=5000001) () (fun v0 a3 v1=>(kC (sh:=eI) (PY x0.fOp) fun v2=>(kN _ (mLen (sh:=Qi) x0.ff) fun v3=>(kIf (c:=v3 !=v2) (kXj (alts:=VS x0) a3 true (.here () rfl (.refl _) (.refl _)))
 (kN _ (mLen (sh:=Q2) x0.fe) fun v4=>(kIfD (p:=6<v4) (kXj (alts:=VS x0) a3 true (.here () rfl (.refl _) (.refl _)))
 (kXj (alts:=VS x0) a3 false (.next (.here () rfl (.refl _) (.refl _))))))))))
 (fun v0=>(kEr (enc:=eB) false))
 (fun v0=>(kL2 () (hL:=(RT x0 0)) (hA:=fun v7 v9=>(kEr (enc:=eB) true))
 (hB:=fun v7 a4=>(kEr (enc:=eB) a4))))) h)
def XP(x0:Q1):Option Bool:=
 if 13≤x0.fOp then
 some (decide (x0.fOp≤18))
 else
 some false
theorem J1(x0 r)(h:XP x0=some r):PU 169 [Q5 x0] (eB r):=
 Pu2 (hs:=[(5,.split)]) ((kIfD (p:=13≤x0.fOp) (kEr (enc:=eB) (decide (x0.fOp≤18)))
 (kEr (enc:=eB) false)) h)
def WC(x0:Int)(x1:Int):Option Bool:=
 if x0==11 then
 if x1==0 then
 some true
 else
 if x0==16 then
 some true
 else
 if x0==17 then
 some true
 else
 some (x0==18)
 else
 if x0==16 then
 some true
 else
 if x0==17 then
 some true
 else
 some (x0==18)
theorem P0(x0 x1 r)(h:WC x0 x1=some r):PU 300 [eI x0,eI x1] (eB r):=
 Pu2 (hs:=[(6,.split),(9,.split),(13,.split),(17,.split)]) ((kIf (c:=x0==11) (kIf (c:=x1==0) (kEr (enc:=eB) true)
 (kIf (c:=x0==16) (kEr (enc:=eB) true)
 (kIf (c:=x0==17) (kEr (enc:=eB) true)
 (kEr (enc:=eB) (x0==18)))))
 (kIf (c:=x0==16) (kEr (enc:=eB) true)
 (kIf (c:=x0==17) (kEr (enc:=eB) true)
 (kEr (enc:=eB) (x0==18))))) h)
def J7(s:Q1)(u:Unit)(o:Unit ⊕ Bool):List Alt:=lp o (.exit 0) (fun _=>[.undef]) (fun _=>[]) .ret (fun x=>[.bool x]) (fun _=>[])
def Yt(x1:Q1)(x3:Int):Option (Unit ⊕ Bool):=
 some (List.length x1.ff:Int)>>=fun v0=>
 if x3<v0 then
 Option.map Qa.f (ix x1.ff x3)>>=fun v1=>
 XP v1>>=fun v2=>
 WC x1.fOp x3>>=fun v3=>
 if !v2==v3 then
 some (.inr false)
 else
 Yt x1 (wr (x3+1))
 else
 some (.inl ())
 partial_fixpoint
theorem Tw(x1 x3 o)(h:Yt x1 x3=some o):LO 249 4 36 [1,3] [.ptr 0 0 0,ii x3] [.cells 0 (Q5 x1).cells] [2] (J7 x1 () o):=
 Yt.partial_correctness x1 (fun x3 o=>LO 249 4 36 [1,3] [.ptr 0 0 0,ii x3] [.cells 0 (Q5 x1).cells] [2] (J7 x1 () o))
 (fun Yt Q8y x3 o h=>
 Lp2 (hs:=[(21,.n eI 21 none),(22,.split),(28,.e Q5),(30,.c eB),(34,.c eB),(35,.split)]) (kb:=[kk 1]) (kbx:=[]) ((kN _ (mLen (sh:=Qi) x1.ff) fun v0=>(kIfD (p:=x3<v0) (kIxR (l:=x1.ff) (k:=x3) XH fun v1=>(kC (sh:=eB) (J1 v1) fun v2=>(kC (sh:=eB) (P0 x1.fOp x3) fun v3=>(kIf (c:= !v2==v3) (kX (alts:=J7 x1 ()) (.inr false) (.next (.here _ rfl (.refl _) (.refl _))))
 (kM0 (alts:=J7 x1 ()) (Q8y (wr (x3+1))))))))
 (kX (alts:=J7 x1 ()) (.inl ()) (.here _ rfl (.refl _) (.refl _))))) h)) x3 o h
def YL(s:Q1)(u:Unit)(o:Bool):List Alt:=jb o (fun b=>[.ptr 0 0 0,.bool b]) [.cells 0 (Q5 s).cells]
def WB(x0:Q1):Option Bool:=
 some ()>>=fun v0=>
 (if x0.fOp==1 then
 DS x0.fd>>=fun v2=>if v2 then
 some false
 else
 some true
 else
 if x0.fOp==12 then
 DS x0.fd>>=fun v3=>if v3 then
 some false
 else
 some true
 else
 some false)>>=fun v1=>if v1 then
 some false
 else
 some ()>>=fun v6=>
 Yt x0 0>>=fun v7=>(match v7 with
 | (.inl v8)=>
 some true
 | (.inr v9)=>
 some v9)
theorem FZ(x0 r)(h:WB x0=some r):PU 249 [Q5 x0] (eB r):=
 Pu2 (hs:=[(6,.split),(10,.split),(15,.cb),(3000005,.l [] [1,3] [kk 1] [2] [] (J7 x0)),(5000001,.l [] [] [] [1,17] [kk 1] (YL x0))]) ((kJb (id:=5000001) () (fun v0 a3 v1=>(kIf (c:=x0.fOp==1) (kCb (Ir x0.fd) (kXj (alts:=YL x0) a3 false (.next (.here () rfl (.refl _) (.refl _))))
 (kXj (alts:=YL x0) a3 true (.here () rfl (.refl _) (.refl _))))
 (kIf (c:=x0.fOp==12) (kCb (Ir x0.fd) (kXj (alts:=YL x0) a3 false (.next (.here () rfl (.refl _) (.refl _))))
 (kXj (alts:=YL x0) a3 true (.here () rfl (.refl _) (.refl _))))
 (kXj (alts:=YL x0) a3 false (.next (.here () rfl (.refl _) (.refl _)))))))
 (fun v0=>(kEr (enc:=eB) false))
 (fun v0=>(kL2 () (hL:=(Tw x0 0)) (hA:=fun v6 v8=>(kEr (enc:=eB) true))
 (hB:=fun v6 v9=>(kEr (enc:=eB) v9))))) h)
def DD(s:Unit)(u:Unit)(o:Int):List Alt:=l1 o (.exit 0) (fun x=>[ii x]) (fun _=>[])
def Un(x0:Int)(x1:Int):Option Int:=
 if x1 !=0 then
 if x1≠0 then
 some (x0.tmod x1:Int)>>=fun v0=>
 Un x1 v0
 else none
 else
 some x0
 partial_fixpoint
theorem FN(x0 x1 o)(h:Un x0 x1=some o):LO 359 1 12 [0,1] [ii x0,ii x1] [] [0] (DD () () o):=
 Un.partial_correctness (fun x0 x1 o=>LO 359 1 12 [0,1] [ii x0,ii x1] [] [0] (DD () () o))
 (fun Un Q7i x0 x1 o h=>
 Lp2 (hs:=[(6,.split),(10,.s),(1,.n eI 1 none)]) (kb:=[]) (kbx:=[]) ((kIf (c:=x1 !=0) (kG (p:=x1≠0) (kN (x0.tmod x1) rfl fun v0=>(kM0 (alts:=DD () ()) (Q7i x1 v0))))
 (kX (alts:=DD () ()) x0 (.here _ rfl (.refl _) (.refl _)))) h)) x0 x1 o h
def Ha(x0:Int)(x1:Int):Option Int:=
 some ()>>=fun v0=>
 Un x0 x1>>=fun v2=>
 some v2
theorem Q2i(x0 x1 r)(h:Ha x0 x1=some r):PU 359 [eI x0,eI x1] (eI r):=
 Pu2 (hs:=[(3000002,.l [] [0,1] [] [0] [] (DD ()))]) ((kL1 () (FN x0 x1) fun v0 v2=>(kEr (enc:=eI) v2)) h)
def KL(s:(Qc×gVal))(u:Unit)(o:Bool):List Alt:=jb o (fun b=>[.ptr 0 0 0,.ptr 1 0 0,.bool b]) [.cells 0 (Qf (s.1)).cells,.cells 0 (Nz (s.2)).cells]
def MW(x0:Qc)(x1:gVal):Option Bool:=
 if x0.fk==2 then
 if 0≤wr (x0.fm - (1:Int)) then
 some (wr ((1:Int)*(2:Int)^min (wr (x0.fm - (1:Int))).toNat (64:Nat)):Int)>>=fun v0=>
 if x1.fD==1 then
 if wr ((0:Int) - v0)≤x1.fN then
 some (decide (x1.fN<v0))
 else
 some false
 else
 some false
 else none
 else
 some ()>>=fun v1=>
 (if 2147483647<x1.fN then
 some true
 else
 if x1.fN< (-2147483647:Int) then
 some true
 else
 if x1.fD<1 then
 some true
 else
 if 2147483647<x1.fD then
 some true
 else
 some false)>>=fun v2=>if v2 then
 some false
 else
 if x0.fk==3 then
 some (x1.fD==1)
 else
 Ha (if true=true then max x1.fN (wr ((0:Int) - x1.fN)) else min x1.fN (wr ((0:Int) - x1.fN))) x1.fD>>=fun v5=>
 some (v5==1)
theorem Q2h(x0 x1 r)(h:MW x0 x1=some r):PU 301 [Qf x0,Nz x1] (eB r):=
 Pu2 (hs:=[(8,.split),(12,.s),(5,.n eI 5 none),(15,.split),(21,.split),(31,.split),(35,.split),(40,.split),(45,.split),(49,.split),(61,.c eI),(5000004,.l [] [] [] [2,3,46] [kk 2,kk 3] (KL (x0,x1)))]) ((kIf (c:=x0.fk==2) (kG (p:=0≤wr (x0.fm - (1:Int))) (kN (wr ((1:Int)*(2:Int)^min (wr (x0.fm - (1:Int))).toNat (64:Nat))) rfl fun v0=>(kIf (c:=x1.fD==1) (kIfD (p:=wr ((0:Int) - v0)≤x1.fN) (kEr (enc:=eB) (decide (x1.fN<v0)))
 (kEr (enc:=eB) false))
 (kEr (enc:=eB) false))))
 (kJb (id:=5000004) () (fun v1 a3 v2=>(kIfD (p:=2147483647<x1.fN) (kXj (alts:=KL (x0,x1)) a3 true (.here () rfl (.refl _) (.refl _)))
 (kIfD (p:=x1.fN< (-2147483647:Int)) (kXj (alts:=KL (x0,x1)) a3 true (.here () rfl (.refl _) (.refl _)))
 (kIfD (p:=x1.fD<1) (kXj (alts:=KL (x0,x1)) a3 true (.here () rfl (.refl _) (.refl _)))
 (kIfD (p:=2147483647<x1.fD) (kXj (alts:=KL (x0,x1)) a3 true (.here () rfl (.refl _) (.refl _)))
 (kXj (alts:=KL (x0,x1)) a3 false (.next (.here () rfl (.refl _) (.refl _)))))))))
 (fun v1=>(kEr (enc:=eB) false))
 (fun v1=>(kIf (c:=x0.fk==3) (kEr (enc:=eB) (x1.fD==1))
 (kC (sh:=eI) (Q2i (if true=true then max x1.fN (wr ((0:Int) - x1.fN)) else min x1.fN (wr ((0:Int) - x1.fN))) x1.fD) fun v5=>(kEr (enc:=eB) (v5==1))))))) h)
def Ve(s:gLin)(u:Unit)(o:Unit ⊕ Bool):List Alt:=lp o (.exit 0) (fun _=>[.undef]) (fun _=>[]) .ret (fun x=>[.bool x]) (fun _=>[])
def Y3(s:gLin)(u:Int)(o:Bool):List Alt:=jb o (fun b=>[.ptr 0 0 0,ii u,.bool b]) [.cells 0 (Qe s).cells]
def Xn(x1:gLin)(x3:Int):Option (Unit ⊕ Bool):=
 some (List.length x1.fL:Int)>>=fun v0=>
 if x3<v0 then
 some x3>>=fun v1=>
 (ix x1.fL x3>>=fun v3=>
 UI v3.fa>>=fun v4=>if v4 then
 ix x1.fL x3>>=fun v5=>
 if v5.fBy==0 then
 some true
 else
 if 0<x3 then
 ix x1.fL (wr (x3 - (1:Int)))>>=fun v6=>
 ix x1.fL x3>>=fun v7=>
 if !Op.bytesLess v6.fa v7.fa then
 some true
 else
 some false
 else
 some false
 else
 some true)>>=fun v2=>if v2 then
 some (.inr false)
 else
 Xn x1 (wr (v1+1))
 else
 some (.inl ())
 partial_fixpoint
theorem Eh(x1 x3 o)(h:Xn x1 x3=some o):LO 302 2 48 [1,3] [.ptr 0 0 0,ii x3] [.cells 0 (Qe x1).cells] [2] (Ve x1 () o):=
 Xn.partial_correctness x1 (fun x3 o=>LO 302 2 48 [1,3] [.ptr 0 0 0,ii x3] [.cells 0 (Qe x1).cells] [2] (Ve x1 () o))
 (fun Xn Q7a x3 o h=>
 Lp2 (hs:=[(7,.n eI 7 none),(8,.split),(14,.e Qk),(17,.cb),(23,.e Qk),(26,.split),(30,.split),(36,.e Qk),(42,.e Qk),(45,.split),(5000004,.l [] [] [] [1,3,47] [kk 1] (Y3 x1))]) (kb:=[kk 1]) (kbx:=[]) ((kN _ (mLen (sh:=Qk) x1.fL) fun v0=>(kIfD (p:=x3<v0) (kJb (id:=5000004) x3 (fun v1 a4 v2=>(kIx (enc:=Qk) (l:=x1.fL) (k:=x3) fun v3=>(kCb (Wg v3.fa) (kIx (enc:=Qk) (l:=x1.fL) (k:=x3) fun v5=>(kIf (c:=v5.fBy==0) (kXj (alts:=Y3 x1) a4 true (.here () rfl (.refl _) (.refl _)))
 (kIfD (p:=0<x3) (kIx (enc:=Qk) (l:=x1.fL) (k:=wr (x3 - (1:Int))) fun v6=>(kIx (enc:=Qk) (l:=x1.fL) (k:=x3) fun v7=>(kIf (c:= !Op.bytesLess v6.fa v7.fa) (kXj (alts:=Y3 x1) a4 true (.here () rfl (.refl _) (.refl _)))
 (kXj (alts:=Y3 x1) a4 false (.next (.here () rfl (.refl _) (.refl _)))))))
 (kXj (alts:=Y3 x1) a4 false (.next (.here () rfl (.refl _) (.refl _)))))))
 (kXj (alts:=Y3 x1) a4 true (.here () rfl (.refl _) (.refl _))))))
 (fun v1=>(kX (alts:=Ve x1 ()) (.inr false) (.next (.here _ rfl (.refl _) (.refl _)))))
 (fun v1=>(kM0 (alts:=Ve x1 ()) (Q7a (wr (v1+1))))))
 (kX (alts:=Ve x1 ()) (.inl ()) (.here _ rfl (.refl _) (.refl _))))) h)) x3 o h
def Vx(x0:gLin):Option Bool:=
 some ()>>=fun v0=>
 Xn x0 0>>=fun v1=>(match v1 with
 | (.inl v2)=>
 some true
 | (.inr v3)=>
 some v3)
theorem C6(x0 r)(h:Vx x0=some r):PU 302 [Qe x0] (eB r):=
 Pu2 (hs:=[(3000003,.l [] [1,3] [kk 1] [2] [] (Ve x0))]) ((kL2 () (hL:=(Eh x0 0)) (hA:=fun v0 v2=>(kEr (enc:=eB) true))
 (hB:=fun v0 v3=>(kEr (enc:=eB) v3))) h)
def VI(s:Q1)(u:Int)(o:Unit ⊕ Bool):List Alt:=lp o (.exit 2) (fun _=>[.ptr 0 0 0,.undef,ii u]) (fun _=>[.cells 0 (Q5 s).cells]) .ret (fun x=>[.ptr 0 0 0,.bool x,ii u]) (fun _=>[.cells 0 (Q5 s).cells])
def XU(x1:Q1)(x3:Int)(x4:Int):Option (Unit ⊕ Bool):=
 ix x1.fe x3>>=fun v0=>
 some (List.length v0.fAt:Int)>>=fun v1=>
 if x4<v1 then
 ix x1.fe x3>>=fun v2=>
 ix v2.fAt x4>>=fun v3=>
 Vx v3>>=fun v4=>if v4 then
 XU x1 x3 (wr (x4+1))
 else
 some (.inr false)
 else
 some (.inl ())
 partial_fixpoint
theorem RS(x1 x3 x4 o)(h:XU x1 x3 x4=some o):LO 250 9 59 [1,3,4] [.ptr 0 0 0,ii x3,ii x4] [.cells 0 (Q5 x1).cells] [1,2,3] (VI x1 x3 o):=
 XU.partial_correctness x1 x3 (fun x4 o=>LO 250 9 59 [1,3,4] [.ptr 0 0 0,ii x3,ii x4] [.cells 0 (Q5 x1).cells] [1,2,3] (VI x1 x3 o))
 (fun XU Q8q x4 o h=>
 Lp2 (hs:=[(41,.e Q2),(44,.n eI 44 none),(45,.split),(51,.e Q2),(55,.e Qe),(57,.cb)]) (kb:=[kk 1]) (kbx:=[kk 1]) ((kIx (enc:=Q2) (l:=x1.fe) (k:=x3) fun v0=>(kN _ (mLen (sh:=Qe) v0.fAt) fun v1=>(kIfD (p:=x4<v1) (kIx (enc:=Q2) (l:=x1.fe) (k:=x3) fun v2=>(kIx (enc:=Qe) (l:=v2.fAt) (k:=x4) fun v3=>(kCb (C6 v3) (kM0 (alts:=VI x1 x3) (Q8q (wr (x4+1))))
 (kX (alts:=VI x1 x3) (.inr false) (.next (.here _ rfl (.refl _) (.refl _)))))))
 (kX (alts:=VI x1 x3) (.inl ()) (.here _ rfl (.refl _) (.refl _)))))) h)) x4 o h
def KH(s:Q1)(u:Unit)(o:Unit ⊕ Bool):List Alt:=lp o (.exit 0) (fun _=>[.undef]) (fun _=>[]) .ret (fun x=>[.bool x]) (fun _=>[])
def XT(x1:Q1)(x3:Int):Option (Unit ⊕ Bool):=
 some (List.length x1.fe:Int)>>=fun v0=>
 if x3<v0 then
 ix x1.fe x3>>=fun v1=>
 Vx v1.fj>>=fun v2=>if v2 then
 some x3>>=fun v3=>
 XU x1 x3 0>>=fun v4=>(match v4 with
 | (.inl v5)=>
 XT x1 (wr (v3+1))
 | (.inr v6)=>
 some (.inr v6))
 else
 some (.inr false)
 else
 some (.inl ())
 partial_fixpoint
theorem RR(x1 x3 o)(h:XT x1 x3=some o):LO 250 4 59 [1,3] [.ptr 0 0 0,ii x3] [.cells 0 (Q5 x1).cells] [2] (KH x1 () o):=
 XT.partial_correctness x1 (fun x3 o=>LO 250 4 59 [1,3] [.ptr 0 0 0,ii x3] [.cells 0 (Q5 x1).cells] [2] (KH x1 () o))
 (fun XT Q8p x3 o h=>
 Lp2 (hs:=[(25,.n eI 25 none),(26,.split),(32,.e Q2),(35,.cb),(3000010,.l [] [1,3,4] [kk 1] [1,2,3] [kk 1] (VI x1))]) (kb:=[kk 1]) (kbx:=[]) ((kN _ (mLen (sh:=Q2) x1.fe) fun v0=>(kIfD (p:=x3<v0) (kIx (enc:=Q2) (l:=x1.fe) (k:=x3) fun v1=>(kCb (C6 v1.fj) (kL2 x3 (hL:=(RS x1 x3 0)) (hA:=fun v3 v5=>(kM0 (alts:=KH x1 ()) (Q8p (wr (v3+1)))))
 (hB:=fun v3 v6=>(kX (alts:=KH x1 ()) (.inr v6) (.next (.here _ rfl (.refl _) (.refl _))))))
 (kX (alts:=KH x1 ()) (.inr false) (.next (.here _ rfl (.refl _) (.refl _))))))
 (kX (alts:=KH x1 ()) (.inl ()) (.here _ rfl (.refl _) (.refl _))))) h)) x3 o h
def Yk(s:Q1)(u:Unit)(o:Bool):List Alt:=jb o (fun b=>[.ptr 0 0 0,.bool b]) [.cells 0 (Q5 s).cells]
def CH(x0:Q1):Option Bool:=
 some ()>>=fun v0=>
 (if x0.fOp==1 then
 MW x0.fd x0.fx>>=fun v2=>if v2 then
 Vx x0.fj>>=fun v3=>if v3 then
 some false
 else
 some true
 else
 some true
 else
 Vx x0.fj>>=fun v4=>if v4 then
 some false
 else
 some true)>>=fun v1=>if v1 then
 some false
 else
 some ()>>=fun v7=>
 XT x0 0>>=fun v8=>(match v8 with
 | (.inl v9)=>
 some true
 | (.inr v10)=>
 some v10)
theorem AE(x0 r)(h:CH x0=some r):PU 250 [Q5 x0] (eB r):=
 Pu2 (hs:=[(7,.split),(13,.cb),(19,.cb),(3000005,.l [] [1,3] [kk 1] [2] [] (KH x0)),(5000001,.l [] [] [] [1,21] [kk 1] (Yk x0))]) ((kJb (id:=5000001) () (fun v0 a3 v1=>(kIf (c:=x0.fOp==1) (kCb (Q2h x0.fd x0.fx) (kCb (C6 x0.fj) (kXj (alts:=Yk x0) a3 false (.next (.here () rfl (.refl _) (.refl _))))
 (kXj (alts:=Yk x0) a3 true (.here () rfl (.refl _) (.refl _))))
 (kXj (alts:=Yk x0) a3 true (.here () rfl (.refl _) (.refl _))))
 (kCb (C6 x0.fj) (kXj (alts:=Yk x0) a3 false (.next (.here () rfl (.refl _) (.refl _))))
 (kXj (alts:=Yk x0) a3 true (.here () rfl (.refl _) (.refl _))))))
 (fun v0=>(kEr (enc:=eB) false))
 (fun v0=>(kL2 () (hL:=(RR x0 0)) (hA:=fun v7 v9=>(kEr (enc:=eB) true))
 (hB:=fun v7 a4=>(kEr (enc:=eB) a4))))) h)
def J5(s:Q1)(u:Unit)(o:Unit ⊕ Int):List Alt:=lp o (.exit 1) (fun _=>[.undef]) (fun _=>[]) .ret (fun x=>[ii x]) (fun _=>[])
mutual
def JU(x0:Q1):Option Int:=
 WA x0>>=fun v0=>if v0 then
 Wz x0>>=fun v1=>if v1 then
 CI x0>>=fun v2=>if v2 then
 WB x0>>=fun v3=>if v3 then
 CH x0>>=fun v4=>if v4 then
 some ()>>=fun v5=>
 Yr x0 0>>=fun v6=>(match v6 with
 | (.inl v7)=>
 some (0:Int)
 | (.inr v8)=>
 some v8)
 else
 some (1:Int)
 else
 some (10:Int)
 else
 some (11:Int)
 else
 some (7:Int)
 else
 some (5:Int)
 partial_fixpoint
def Yr(x1:Q1)(x3:Int):Option (Unit ⊕ Int):=
 some (List.length x1.ff:Int)>>=fun v0=>
 if x3<v0 then
 Option.map Qa.f (ix x1.ff x3)>>=fun v1=>
 JU v1>>=fun v2=>
 if v2 !=0 then
 some (.inr v2)
 else
 Yr x1 (wr (x3+1))
 else
 some (.inl ())
 partial_fixpoint
end
theorem FG:(∀(x0:Q1) (r:Int),JU x0=some r→PU 213 [Q5 x0] (eI r))∧(∀(x1:Q1) (x3:Int) (o:Unit ⊕ Int),Yr x1 x3=some o→LO 213 12 41 [1,3] [.ptr 0 0 0,ii x3] [.cells 0 (Q5 x1).cells] [2] (J5 x1 () o)):=
 JU.mutual_partial_correctness _ _
 (fun Yr Q8t x0 r h=>
 Pu2 (hs:=[(7,.cb),(11,.cb),(15,.cb),(19,.cb),(23,.cb),(3000013,.l [] [1,3] [kk 1] [2] [] (J5 x0))]) ((kCb (FY x0) (kCb (FX x0) (kCb (AF x0) (kCb (FZ x0) (kCb (AE x0) (kL2 () (hL:=(Q8t x0 0)) (hA:=fun v5 v7=>(kEr (enc:=eI) (0:Int)))
 (hB:=fun v5 v8=>(kEr (enc:=eI) v8)))
 (kEr (enc:=eI) (1:Int)))
 (kEr (enc:=eI) (10:Int)))
 (kEr (enc:=eI) (11:Int)))
 (kEr (enc:=eI) (7:Int)))
 (kEr (enc:=eI) (5:Int))) h))
 (fun JU Yr Q8s Q8t x1 x3 o h=>
 Lp2 (hs:=[(28,.n eI 28 none),(29,.split),(35,.e Q5),(37,.c eI),(39,.split)]) (kb:=[kk 1]) (kbx:=[]) ((kN _ (mLen (sh:=Qi) x1.ff) fun v0=>(kIfD (p:=x3<v0) (kIxR (l:=x1.ff) (k:=x3) XH fun v1=>(kC (sh:=eI) (Q8s v1) fun v2=>(kIf (c:=v2 !=0) (kX (alts:=J5 x1 ()) (.inr v2) (.next (.here _ rfl (.refl _) (.refl _))))
 (kM0 (alts:=J5 x1 ()) (Q8t x1 (wr (x3+1)))))))
 (kX (alts:=J5 x1 ()) (.inl ()) (.here _ rfl (.refl _) (.refl _))))) h))
theorem PZ(x0 r)(h:JU x0=some r):PU 213 [Q5 x0] (eI r):=(FG).1 x0 r h
def Dx(x0:Q1):Option Int:=
 ML x0>>=fun v0=>
 if 40<v0 then
 some (13:Int)
 else
 Nk x0>>=fun v1=>
 if 2000<v1 then
 some (2:Int)
 else
 JU x0>>=fun v2=>
 some v2
theorem Tt(x0 r)(h:Dx x0=some r):PU 181 [Q5 x0] (eI r):=
 Pu2 (hs:=[(4,.c eI),(5,.split),(7,.c eI),(8,.split),(10,.c eI)]) ((kC (sh:=eI) (FU x0) fun v0=>(kIfD (p:=40<v0) (kEr (enc:=eI) (13:Int))
 (kC (sh:=eI) (PX x0) fun v1=>(kIfD (p:=2000<v1) (kEr (enc:=eI) (2:Int))
 (kC (sh:=eI) (PZ x0) fun v2=>(kEr (enc:=eI) v2)))))) h)
def Dc(s:Q1)(u:Unit)(o:List Qa):List Alt:=l1 o (.exit 0) (fun x=>[.sl 13 (List.map Qi x)]) (fun _=>[])
mutual
def UK(x0:Q1):Option (List Qa):=
 some ()>>=fun v0=>
 Kz x0 [(Qa.mk x0)] (0:Int)>>=fun v2=>
 some v2
 partial_fixpoint
def Kz(x1:Q1)(x3:List Qa)(x4:Int):Option (List Qa):=
 some (List.length x1.ff:Int)>>=fun v0=>
 if x4<v0 then
 Option.map Qa.f (ix x1.ff x4)>>=fun v1=>
 UK v1>>=fun v2=>
 if(x3.length+(List.map Qi v2).length)*(160:Nat)≤(140737488355328:Nat)∧x3.length+(List.map Qi v2).length≤(9223372036854775807:Nat) then
 some (x3++v2)>>=fun v3=>
 Kz x1 v3 (wr (x4+1))
 else none
 else
 some x3
 partial_fixpoint
end
theorem PM:(∀(x0:Q1) (r:List Qa),UK x0=some r→PU 179 [Q5 x0] (YO r))∧(∀(x1:Q1) (x3:List Qa) (x4:Int) (o:List Qa),Kz x1 x3 x4=some o→LO 179 3 23 [1,3,4] [.ptr 0 0 0,.ow 1 0 13 (List.length x3),ii x4] [.cells 0 (Q5 x1).cells,.own 0 13 (List.map Qi x3)] [3] (Dc x1 () o)):=
 UK.mutual_partial_correctness _ _
 (fun Kz Q8m x0 r h=>
 Pu2 (hs:=[(3000004,.l [] [1,3,4] [kk 1,{slot:=3,own:=13}] [3] [{slot:=3,fz:=true}] (Dc x0))]) ((kL1 () (fun y hy=>X7.le (.cons lr (.cons lr (.cons lr .nil))) (.cons (LeB.refl (Box.cells (0:Nat) [ii x0.fOp,AV.str x0.fa,ii x0.fx.fN,ii x0.fx.fD,ii x0.fd.fk,ii x0.fd.fm,ii x0.fd.fv,ii x0.fd.fo,ii x0.fd.fw,ii x0.fj.fK,AV.sl (2:Nat) (List.map Qk x0.fj.fL),AV.sl (4:Nat) (List.map Q2 x0.fe),AV.sl (13:Nat) (List.map Qi x0.ff)])) (.cons (LeB.own (0:Nat) (13:Nat) (.cons (legExpr x0) .nil)) .nil)) (Q8m x0 [(Qa.mk x0)] (0:Int) y hy)) fun v0 v2=>(kEr (enc:=YO) v2)) h))
 (fun UK Kz Q8l Q8m x1 x3 x4 o h=>
 Lp2 (hs:=[(10,.n eI 10 none),(11,.split),(18,.e Q5),(20,.c YO),(21,.z [{slot:=14,own:=13}] (some (.n Qi 21 (some .a))))]) (kb:=[kk 1,{slot:=3,own:=13}]) (kbx:=[{slot:=3,fz:=true}]) ((kN _ (mLen (sh:=Qi) x1.ff) fun v0=>(kIfD (p:=x4<v0) (kIxR (l:=x1.ff) (k:=x4) XH fun v1=>(kC (sh:=YO) (Q8l v1) fun v2=>(kA (q:=(x3.length+(List.map Qi v2).length)*(160:Nat)≤(140737488355328:Nat)∧x3.length+(List.map Qi v2).length≤(9223372036854775807:Nat)) (sh:=Qi) (l:=x3) (kO (sh:=Qi) (x3++v2) (mAA (sh:=Qi) x3 v2) (nAA (sh:=Qi) x3 v2) fun v3=>(kM0 (alts:=Dc x1 ()) (Q8m x1 v3 (wr (x4+1))))))))
 (kT (nM (sh:=Qi) x3) (kX (alts:=Dc x1 ()) x3 (.here _ rfl (.refl _) (.refl _)))))) h))
theorem Q03(x0 r)(h:UK x0=some r):PU 179 [Q5 x0] (YO r):=(PM).1 x0 r h
def Ja(s:((List gLin)× (List Qw)×Int))(u:Int)(o:Bool):List Alt:=l1 o (.exit 4) (fun x=>[.sl 2 (List.map Qe s.1),.sl 2 (List.map Qv s.2.1),ii s.2.2,ii u,.bool x]) (fun _=>[])
def XD(x0:List gLin)(x1:List Qw)(x5:Int)(x6:Int)(x7:Bool)(x8:Int):Option Bool:=
 some (List.length x1:Int)>>=fun v0=>
 if x8<v0 then
 if x7 then
 XD x0 x1 x5 x6 true (wr (x8+1))
 else
 ix x1 x8>>=fun v1=>
 ix x0 x5>>=fun v2=>
 ix v2.fL x6>>=fun v3=>
 XD x0 x1 x5 x6 (v1.fa==v3.fa) (wr (x8+1))
 else
 some x7
 partial_fixpoint
theorem TA(x0 x1 x5 x6 x7 x8 o)(h:XD x0 x1 x5 x6 x7 x8=some o):LO 226 9 51 [0,1,5,6,7,8] [.sl 2 (List.map Qe x0),.sl 2 (List.map Qv x1),ii x5,ii x6,.bool x7,ii x8] [] [0,1,5,6,7] (Ja (x0,x1,x5) x6 o):=
 XD.partial_correctness x0 x1 x5 x6 (fun x7 x8 o=>LO 226 9 51 [0,1,5,6,7,8] [.sl 2 (List.map Qe x0),.sl 2 (List.map Qv x1),ii x5,ii x6,.bool x7,ii x8] [] [0,1,5,6,7] (Ja (x0,x1,x5) x6 o))
 (fun XD Q97 x7 x8 o h=>
 Lp2 (hs:=[(27,.n eI 27 none),(28,.split),(31,.split),(35,.e Qv),(40,.e Qe),(44,.e Qk)]) (kb:=[]) (kbx:=[]) ((kN _ (mLen (sh:=Qv) x1) fun v0=>(kIfD (p:=x8<v0) (kIf (c:=x7) (kM0 (alts:=Ja (x0,x1,x5) x6) (Q97 true (wr (x8+1))))
 (kIx (enc:=Qv) (l:=x1) (k:=x8) fun v1=>(kIx (enc:=Qe) (l:=x0) (k:=x5) fun v2=>(kIx (enc:=Qk) (l:=v2.fL) (k:=x6) fun v3=>(kM0 (alts:=Ja (x0,x1,x5) x6) (Q97 (v1.fa==v3.fa) (wr (x8+1))))))))
 (kX (alts:=Ja (x0,x1,x5) x6) x7 (.here _ rfl (.refl _) (.refl _))))) h)) x7 x8 o h
def J9(s:((List gLin)× (List Qw)))(u:Int)(o:Unit ⊕ Bool):List Alt:=lp o (.exit 2) (fun _=>[.sl 2 (List.map Qe s.1),.sl 2 (List.map Qv s.2),.undef,ii u]) (fun _=>[]) .ret (fun x=>[.sl 2 (List.map Qe s.1),.sl 2 (List.map Qv s.2),.bool x,ii u]) (fun _=>[])
def Yv(x0:List gLin)(x1:List Qw)(x5:Int)(x6:Int):Option (Unit ⊕ Bool):=
 ix x0 x5>>=fun v0=>
 some (List.length v0.fL:Int)>>=fun v1=>
 if x6<v1 then
 some x6>>=fun v2=>
 XD x0 x1 x5 x6 false 0>>=fun v4=>
 if v4 then
 Yv x0 x1 x5 (wr (v2+1))
 else
 some (.inr false)
 else
 some (.inl ())
 partial_fixpoint
theorem Tz(x0 x1 x5 x6 o)(h:Yv x0 x1 x5 x6=some o):LO 226 5 51 [0,1,5,6] [.sl 2 (List.map Qe x0),.sl 2 (List.map Qv x1),ii x5,ii x6] [] [0,1,4,5] (J9 (x0,x1) x5 o):=
 Yv.partial_correctness x0 x1 x5 (fun x6 o=>LO 226 5 51 [0,1,5,6] [.sl 2 (List.map Qe x0),.sl 2 (List.map Qv x1),ii x5,ii x6] [] [0,1,4,5] (J9 (x0,x1) x5 o))
 (fun Yv Q96 x6 o h=>
 Lp2 (hs:=[(18,.e Qe),(21,.n eI 21 none),(22,.split),(49,.split),(3000010,.l [] [0,1,5,6,7,8] [] [0,1,5,6,7] [] (Ja (x0,x1,x5)))]) (kb:=[]) (kbx:=[]) ((kIx (enc:=Qe) (l:=x0) (k:=x5) fun v0=>(kN _ (mLen (sh:=Qk) v0.fL) fun v1=>(kIfD (p:=x6<v1) (kL1 x6 (TA x0 x1 x5 x6 false 0) fun v2 v4=>(kIf (c:=v4) (kM0 (alts:=J9 (x0,x1) x5) (Q96 (wr (v2+1))))
 (kX (alts:=J9 (x0,x1) x5) (.inr false) (.next (.here _ rfl (.refl _) (.refl _))))))
 (kX (alts:=J9 (x0,x1) x5) (.inl ()) (.here _ rfl (.refl _) (.refl _)))))) h)) x6 o h
def J8(s:((List gLin)× (List Qw)))(u:Unit)(o:Unit ⊕ Bool):List Alt:=lp o (.exit 0) (fun _=>[.undef]) (fun _=>[]) .ret (fun x=>[.bool x]) (fun _=>[])
def Yu(x0:List gLin)(x1:List Qw)(x5:Int):Option (Unit ⊕ Bool):=
 some (List.length x0:Int)>>=fun v0=>
 if x5<v0 then
 some x5>>=fun v1=>
 Yv x0 x1 x5 0>>=fun v2=>(match v2 with
 | (.inl v3)=>
 Yu x0 x1 (wr (v1+1))
 | (.inr v4)=>
 some (.inr v4))
 else
 some (.inl ())
 partial_fixpoint
theorem Ty(x0 x1 x5 o)(h:Yu x0 x1 x5=some o):LO 226 2 51 [0,1,5] [.sl 2 (List.map Qe x0),.sl 2 (List.map Qv x1),ii x5] [] [4] (J8 (x0,x1) () o):=
 Yu.partial_correctness x0 x1 (fun x5 o=>LO 226 2 51 [0,1,5] [.sl 2 (List.map Qe x0),.sl 2 (List.map Qv x1),ii x5] [] [4] (J8 (x0,x1) () o))
 (fun Yu Q95 x5 o h=>
 Lp2 (hs:=[(11,.n eI 11 none),(12,.split),(3000006,.l [] [0,1,5,6] [] [0,1,4,5] [] (J9 (x0,x1)))]) (kb:=[]) (kbx:=[]) ((kN _ (mLen (sh:=Qe) x0) fun v0=>(kIfD (p:=x5<v0) (kL2 x5 (hL:=(Tz x0 x1 x5 0)) (hA:=fun v1 v3=>(kM0 (alts:=J8 (x0,x1) ()) (Q95 (wr (v1+1)))))
 (hB:=fun v1 v4=>(kX (alts:=J8 (x0,x1) ()) (.inr v4) (.next (.here _ rfl (.refl _) (.refl _))))))
 (kX (alts:=J8 (x0,x1) ()) (.inl ()) (.here _ rfl (.refl _) (.refl _))))) h)) x5 o h
def DH(x0:List gLin)(x1:List Qw):Option Bool:=
 some ()>>=fun v0=>
 Yu x0 x1 0>>=fun v1=>(match v1 with
 | (.inl v2)=>
 some true
 | (.inr v3)=>
 some v3)
theorem HZ(x0 x1 r)(h:DH x0 x1=some r):PU 226 [GI x0,GH x1] (eB r):=
 Pu2 (hs:=[(3000003,.l [] [0,1,5] [] [4] [] (J8 (x0,x1)))]) ((kL2 () (hL:=(Ty x0 x1 0)) (hA:=fun v0 v2=>(kEr (enc:=eB) true))
 (hB:=fun v0 v3=>(kEr (enc:=eB) v3))) h)
def Gw(s:List Q7)(u:Unit)(o:List gLin):List Alt:=l1 o (.exit 0) (fun x=>[.sl 2 (List.map Qe x)]) (fun _=>[])
def K4(x0:List Q7)(x3:List gLin)(x4:Int):Option (List gLin):=
 some (List.length x0:Int)>>=fun v0=>
 if x4<v0 then
 ix x0 x4>>=fun v1=>
 if(x3.length+(1:Nat))*(32:Nat)≤(140737488355328:Nat)∧x3.length+(1:Nat)≤(9223372036854775807:Nat) then
 some (x3++[v1.fj])>>=fun v2=>
 ix x0 x4>>=fun v3=>
 if(v2.length+(List.map Qe v3.fAt).length)*(32:Nat)≤(140737488355328:Nat)∧v2.length+(List.map Qe v3.fAt).length≤(9223372036854775807:Nat) then
 some (v2++v3.fAt)>>=fun v4=>
 K4 x0 v4 (wr (x4+1))
 else none
 else none
 else
 some x3
 partial_fixpoint
theorem Sk(x0 x3 x4 o)(h:K4 x0 x3 x4=some o):LO 227 3 27 [0,3,4] [.sl 4 (List.map Q2 x0),.ow 0 0 2 (List.length x3),ii x4] [.own 0 2 (List.map Qe x3)] [3] (Gw x0 () o):=
 K4.partial_correctness x0 (fun x3 x4 o=>LO 227 3 27 [0,3,4] [.sl 4 (List.map Q2 x0),.ow 0 0 2 (List.length x3),ii x4] [.own 0 2 (List.map Qe x3)] [3] (Gw x0 () o))
 (fun K4 Q9c x3 x4 o h=>
 Lp2 (hs:=[(7,.n eI 7 none),(8,.split),(14,.e Q2),(18,.z [{slot:=11,own:=2}] (some (.n Qe 18 (some .a)))),(22,.e Q2),(25,.z [{slot:=19,own:=2}] (some (.n Qe 25 (some .a))))]) (kb:=[{slot:=3,own:=2}]) (kbx:=[{slot:=3,fz:=true}]) ((kN _ (mLen (sh:=Q2) x0) fun v0=>(kIfD (p:=x4<v0) (kIx (enc:=Q2) (l:=x0) (k:=x4) fun v1=>(kA (q:=(x3.length+(1:Nat))*(32:Nat)≤(140737488355328:Nat)∧x3.length+(1:Nat)≤(9223372036854775807:Nat)) (sh:=Qe) (l:=x3) (kO (sh:=Qe) (x3++[v1.fj]) (mA (sh:=Qe) x3 v1.fj) (nA x3 v1.fj) fun v2=>(kIx (enc:=Q2) (l:=x0) (k:=x4) fun v3=>(kA (q:=(v2.length+(List.map Qe v3.fAt).length)*(32:Nat)≤(140737488355328:Nat)∧v2.length+(List.map Qe v3.fAt).length≤(9223372036854775807:Nat)) (sh:=Qe) (l:=v2) (kO (sh:=Qe) (v2++v3.fAt) (mAA (sh:=Qe) v2 v3.fAt) (nAA (sh:=Qe) v2 v3.fAt) fun v4=>(kM0 (alts:=Gw x0 ()) (Q9c v4 (wr (x4+1))))))))))
 (kT (nM (sh:=Qe) x3) (kX (alts:=Gw x0 ()) x3 (.here _ rfl (.refl _) (.refl _)))))) h)) x3 x4 o h
def Nn(x0:List Q7):Option (List gLin):=
 some ()>>=fun v0=>
 K4 x0 [] 0>>=fun v2=>
 some v2
theorem O6(x0 r)(h:Nn x0=some r):PU 227 [YB x0] (GI r):=
 Pu2 (hs:=[(3000004,.l [] [0,3,4] [{slot:=3,own:=2}] [3] [{slot:=3,fz:=true}] (Gw x0))]) ((kL1 () (Sk x0 [] 0) fun v0 v2=>(kEr (enc:=GI) v2)) h)
def Yp(s:(Q9×Q1))(u:Unit)(o:Unit ⊕ Int):List Alt:=lp o (.exit 0) (fun _=>[.undef]) (fun _=>[]) .ret (fun x=>[ii x]) (fun _=>[])
def XF(x3:Q9)(x5:Q1)(x9:Int):Option (Unit ⊕ Int):=
 some (List.length x5.fe:Int)>>=fun v0=>
 if x9<v0 then
 ix x5.fe x9>>=fun v1=>
 if v1.fu==[] then
 XF x3 x5 (wr (x9+1))
 else
 ix x5.fe x9>>=fun v2=>
 Vj x3 v2.fu>>=fun v3=>
 if v3.snd then
 if v3.fst.fd.fk !=3 then
 some (.inr (10:Int))
 else
 ix x5.fe x9>>=fun v4=>
 some (List.length v3.fst.fC:Int)>>=fun v5=>
 some (List.length v4.fAt:Int)>>=fun v6=>
 if v5 !=v6 then
 some (.inr (11:Int))
 else
 XF x3 x5 (wr (x9+1))
 else
 some (.inr (9:Int))
 else
 some (.inl ())
 partial_fixpoint
theorem TB(x3 x5 x9 o)(h:XF x3 x5 x9=some o):LO 196 11 90 [3,5,9] [.ptr 0 0 0,.ptr 1 0 0,ii x9] [.cells 0 (Qj x3).cells,.cells 0 (Q5 x5).cells] [6] (Yp (x3,x5) () o):=
 XF.partial_correctness x3 x5 (fun x9 o=>LO 196 11 90 [3,5,9] [.ptr 0 0 0,.ptr 1 0 0,ii x9] [.cells 0 (Qj x3).cells,.cells 0 (Q5 x5).cells] [6] (Yp (x3,x5) () o))
 (fun XF Q9d x9 o h=>
 Lp2 (hs:=[(48,.n eI 48 none),(49,.split),(55,.e Q2),(58,.split),(64,.e Q2),(67,.c QE),(71,.split),(77,.split),(81,.n eI 81 none),(85,.e Q2),(88,.n eI 88 none),(89,.split)]) (kb:=[kk 3,kk 5]) (kbx:=[]) ((kN _ (mLen (sh:=Q2) x5.fe) fun v0=>(kIfD (p:=x9<v0) (kIx (enc:=Q2) (l:=x5.fe) (k:=x9) fun v1=>(kIf (c:=v1.fu==[]) (kM0 (alts:=Yp (x3,x5) ()) (Q9d (wr (x9+1))))
 (kIx (enc:=Q2) (l:=x5.fe) (k:=x9) fun v2=>(kC (sh:=QE) (Dh x3 v2.fu) fun v3=>(kIf (c:=v3.snd) (kIf (c:=v3.fst.fd.fk !=3) (kX (alts:=Yp (x3,x5) ()) (.inr (10:Int)) (.next (.here _ rfl (.refl _) (.refl _))))
 (kIx (enc:=Q2) (l:=x5.fe) (k:=x9) fun v4=>(kN _ (mLen (sh:=eI) v3.fst.fC) fun v5=>(kN _ (mLen (sh:=Qe) v4.fAt) fun v6=>(kIf (c:=v5 !=v6) (kX (alts:=Yp (x3,x5) ()) (.inr (11:Int)) (.next (.here _ rfl (.refl _) (.refl _))))
 (kM0 (alts:=Yp (x3,x5) ()) (Q9d (wr (x9+1)))))))))
 (kX (alts:=Yp (x3,x5) ()) (.inr (9:Int)) (.next (.here _ rfl (.refl _) (.refl _)))))))))
 (kX (alts:=Yp (x3,x5) ()) (.inl ()) (.here _ rfl (.refl _) (.refl _))))) h)) x9 o h
def Uc(s:(Q9×Q1))(u:Unit)(o:Bool):List Alt:=jb o (fun b=>[.ptr 0 0 0,.ptr 1 0 0,.bool b]) [.cells 0 (Qj (s.1)).cells,.cells 0 (Q5 (s.2)).cells]
def No(x0:Q9)(x1:List Qw)(x2:Q1):Option Int:=
 some ()>>=fun v0=>
 (DH [x2.fj] x1>>=fun v2=>if v2 then
 Nn x2.fe>>=fun v3=>
 DH v3 x1>>=fun v4=>if v4 then
 some false
 else
 some true
 else
 some true)>>=fun v1=>if v1 then
 some (9:Int)
 else
 if x2.fOp !=3 then
 some (0:Int)
 else
 Vj x0 x2.fa>>=fun v7=>
 if v7.snd then
 some (List.length v7.fst.fC:Int)>>=fun v8=>
 some (List.length x2.fe:Int)>>=fun v9=>
 if v8 !=v9 then
 some (11:Int)
 else
 some ()>>=fun a9=>
 XF x0 x2 0>>=fun a4=>(match a4 with
 | (.inl v12)=>
 some (0:Int)
 | (.inr v13)=>
 some v13)
 else
 some (9:Int)
theorem O7(x0 x1 x2 r)(h:No x0 x1 x2=some r):PU 196 [Qj x0,GH x1,Q5 x2] (eI r):=
 Pu2 (hs:=[(16,.cb),(21,.c GI),(23,.cb),(28,.split),(33,.c QE),(36,.split),(40,.n eI 40 none),(43,.n eI 43 none),(44,.split),(3000012,.l [] [3,5,9] [kk 3,kk 5] [6] [] (Yp (x0,x2))),(5000001,.l [] [] [] [3,5,25] [kk 3,kk 5] (Uc (x0,x2)))]) ((kJb (id:=5000001) () (fun v0 a3 v1=>(kCb (HZ [x2.fj] x1) (kC (sh:=GI) (O6 x2.fe) fun v3=>(kCb (HZ v3 x1) (kXj (alts:=Uc (x0,x2)) a3 false (.next (.here () rfl (.refl _) (.refl _))))
 (kXj (alts:=Uc (x0,x2)) a3 true (.here () rfl (.refl _) (.refl _)))))
 (kXj (alts:=Uc (x0,x2)) a3 true (.here () rfl (.refl _) (.refl _)))))
 (fun v0=>(kEr (enc:=eI) (9:Int)))
 (fun v0=>(kIf (c:=x2.fOp !=3) (kEr (enc:=eI) (0:Int))
 (kC (sh:=QE) (Dh x0 x2.fa) fun v7=>(kIf (c:=v7.snd) (kN _ (mLen (sh:=eI) v7.fst.fC) fun v8=>(kN _ (mLen (sh:=Q2) x2.fe) fun v9=>(kIf (c:=v8 !=v9) (kEr (enc:=eI) (11:Int))
 (kL2 () (hL:=(TB x0 x2 0)) (hA:=fun a4 a8=>(kEr (enc:=eI) (0:Int)))
 (hB:=fun a4 a5=>(kEr (enc:=eI) a5))))))
 (kEr (enc:=eI) (9:Int))))))) h)
def Vs(s:(Q9×Q1))(u:Unit)(o:(Qc× (List Qc)) ⊕ (Qc×Int)):List Alt:=lp o (.exit 0) (fun x=>[.ptr 0 0 0,.ptr 1 0 0,.ptr 2 0 0,.undef,.sl 5 (List.map Qf x.2)]) (fun x=>[.cells 0 (Qj s.1).cells,.cells 0 (Q5 s.2).cells,.cells 0 (Qf x.1).cells]) .ret (fun x=>[.ptr 0 0 0,.ptr 1 0 0,.ptr 2 0 0,ii x.2,.undef]) (fun x=>[.cells 0 (Qj s.1).cells,.cells 0 (Q5 s.2).cells,.cells 0 (Qf x.1).cells])
def U8(s:(Q9×Q1))(u:(Qc× (List Qc)))(o:Bool):List Alt:=jb o (fun b=>[.ptr 0 0 0,.ptr 1 0 0,.ptr 2 0 0,.sl 5 (List.map Qf (u.2)),.bool b]) [.cells 0 (Qj (s.1)).cells,.cells 0 (Q5 (s.2)).cells,.cells 0 (Qf (u.1)).cells]
def U9(s:(Q9×Q1))(u:(Qc× (List Qc)×Int))(o:Bool):List Alt:=jb o (fun b=>[.ptr 0 0 0,.ptr 1 0 0,.ptr 2 0 0,.sl 5 (List.map Qf (u.2.1)),ii (u.2.2),.bool b]) [.cells 0 (Qj (s.1)).cells,.cells 0 (Q5 (s.2)).cells,.cells 0 (Qf (u.1)).cells]
mutual
def VA(x0:Q9)(x1:Q1):Option (Qc×Int):=
 some ()>>=fun v0=>
 Yb x0 x1 (Qc.mk (0:Int) (0:Int) (0:Int) (0:Int) (0:Int)) [] (0:Int)>>=fun v1=>(match v1 with
 | (.inl v2)=>
 some (v2.fst,v2.snd)>>=fun v3=>
 (if(↑(List.map Qf v2.snd).length:Int)==2 then
 ix v2.snd (0:Int)>>=fun v5=>
 ix v2.snd (1:Int)>>=fun v6=>
 some (List.length v2.snd:Int)>>=fun v7=>
 if !(v5.fk==v6.fk&& (v5.fm==v6.fm&& (v5.fv==v6.fv&& (v5.fo==v6.fo&& (v5.fw==v6.fw&&true))))) then
 some true
 else
 some false
 else
 some (List.length v2.snd:Int)>>=fun v8=>
 some false)>>=fun v4=>if v4 then
 some ((Qc.mk (0:Int) (0:Int) (0:Int) (0:Int) (0:Int)))>>=fun a7=>
 some (a7,(10:Int))
 else
 some (v3.fst,v3.snd,x1.fOp)>>=fun a3=>
 (if x1.fOp==1 then
 some true
 else
 if x1.fOp==12 then
 some true
 else
 some false)>>=fun a8=>if a8 then
 some (x1.fd,(0:Int))
 else
 if a3.snd.snd==2 then
 some ((Qc.mk (3:Int) (0:Int) (0:Int) (0:Int) (0:Int)))>>=fun a9=>
 some (a9,(0:Int))
 else
 if a3.snd.snd==3 then
 Vj x0 x1.fa>>=fun aa=>
 some (aa.fst.fd,(0:Int))
 else
 XP x1>>=fun ab=>if ab then
 some ((Qc.mk (0:Int) (0:Int) (0:Int) (0:Int) (0:Int)))>>=fun ac=>
 some (ac,(0:Int))
 else
 ix a3.snd.fst (0:Int)>>=fun ad=>
 some (ad,(0:Int))
 | (.inr v21)=>
 some (v21.fst,v21.snd))
 partial_fixpoint
def Yb(x2:Q9)(x3:Q1)(x4:Qc)(x6:List Qc)(x7:Int):Option ((Qc× (List Qc)) ⊕ (Qc×Int)):=
 some (List.length x3.ff:Int)>>=fun v0=>
 if x7<v0 then
 Option.map Qa.f (ix x3.ff x7)>>=fun v1=>
 VA x2 v1>>=fun v2=>
 if v2.snd !=0 then
 some ((Qc.mk (0:Int) (0:Int) (0:Int) (0:Int) (0:Int)))>>=fun v3=>
 some (.inr (v3,v2.snd))
 else
 Option.map Qa.f (ix x3.ff x7)>>=fun v4=>
 XP v4>>=fun v5=>if v5 then
 Yb x2 x3 x4 x6 (wr (x7+1))
 else
 if(x6.length+(1:Nat))*(40:Nat)≤(140737488355328:Nat)∧x6.length+(1:Nat)≤(9223372036854775807:Nat) then
 some (x6++[v2.fst])>>=fun v6=>
 Yb x2 x3 x4 v6 (wr (x7+1))
 else none
 else
 some (.inl (x4,x6))
 partial_fixpoint
end
theorem FI(x0:Q9):(∀(x1:Q1) (r:(Qc×Int)),VA x0 x1=some r→PU 197 [Qj x0,Q5 x1] (Qm r))∧(∀(x3:Q1) (x4:Qc) (x6:List Qc) (x7:Int) (o:(Qc× (List Qc)) ⊕ (Qc×Int)),Yb x0 x3 x4 x6 x7=some o→LO 197 3 84 [2,3,4,6,7] [.ptr 0 0 0,.ptr 1 0 0,.ptr 2 0 0,.ow 3 0 5 (List.length x6),ii x7] [.cells 0 (Qj x0).cells,.cells 0 (Q5 x3).cells,.cells 0 (Qf x4).cells,.own 0 5 (List.map Qf x6)] [2,3,4,5,6] (Vs (x0,x3) () o)):=
 VA.mutual_partial_correctness x0 _ _
 (fun Yb Q92 x1 r h=>
 Pu2 (hs:=[(45,.n eI 45 none),(46,.split),(49,.e Qf),(52,.e Qf),(54,.split),(56,.n Qf 56 none),(59,.split),(59,.split),(65,.split),(66,.n Qf 66 none),(68,.split),(73,.c QE),(79,.cb),(80,.n Qf 80 none),(82,.e Qf),(3000004,.l [] [2,3,4,6,7] [kk 2,kk 3,kk 4,{slot:=6,own:=5}] [2,3,4,5,6] [kk 2,kk 3,kk 4,{slot:=6,fz:=true}] (Vs (x0,x1))),(5000010,.l [] [] [] [2,3,4,6,55] [kk 2,kk 3,kk 4,{slot:=6,fz:=true}] (U8 (x0,x1))),(6000015,.l [] [] [] [2,3,4,6,58,59] [kk 2,kk 3,kk 4,{slot:=6,fz:=true}] (U9 (x0,x1)))]) ((kL2 () (hL:=(Q92 x1 (Qc.mk (0:Int) (0:Int) (0:Int) (0:Int) (0:Int)) [] (0:Int))) (hA:=fun v0 v2=>(kJb (id:=5000010) (v2.fst,v2.snd) (fun v3 ab v4=>(kIf (c:=(↑(List.map Qf v2.snd).length:Int)==2) (kIx (enc:=Qf) (l:=v2.snd) (k:=(0:Int)) fun v5=>(kIx (enc:=Qf) (l:=v2.snd) (k:=(1:Int)) fun v6=>(kN _ (mLen (sh:=Qf) v2.snd) fun v7=>(kIf (c:= !(v5.fk==v6.fk&& (v5.fm==v6.fm&& (v5.fv==v6.fv&& (v5.fo==v6.fo&& (v5.fw==v6.fw&&true)))))) (kXj (alts:=U8 (x0,x1)) ab true (.here () rfl (.refl _) (.refl _)))
 (kXj (alts:=U8 (x0,x1)) ab false (.next (.here () rfl (.refl _) (.refl _))))))))
 (kN _ (mLen (sh:=Qf) v2.snd) fun v8=>(kXj (alts:=U8 (x0,x1)) ab false (.next (.here () rfl (.refl _) (.refl _)))))))
 (fun v3=>(kW (sh:=Qf) (Qc.mk (0:Int) (0:Int) (0:Int) (0:Int) (0:Int)) lr fun ai=>(kEr (enc:=Qm) (ai,(10:Int)))))
 (fun v3=>(kJb (id:=6000015) (v3.fst,v3.snd,x1.fOp) (fun a9 a8 aq=>(kIf (c:=x1.fOp==1) (kXj (alts:=U9 (x0,x1)) a8 true (.here () rfl (.refl _) (.refl _)))
 (kIf (c:=x1.fOp==12) (kXj (alts:=U9 (x0,x1)) a8 true (.here () rfl (.refl _) (.refl _)))
 (kXj (alts:=U9 (x0,x1)) a8 false (.next (.here () rfl (.refl _) (.refl _)))))))
 (fun a9=>(kEr (enc:=Qm) (x1.fd,(0:Int))))
 (fun a9=>(kIf (c:=a9.snd.snd==2) (kW (sh:=Qf) (Qc.mk (3:Int) (0:Int) (0:Int) (0:Int) (0:Int)) lr fun aj=>(kEr (enc:=Qm) (aj,(0:Int))))
 (kIf (c:=a9.snd.snd==3) (kC (sh:=QE) (Dh x0 x1.fa) fun ak=>(kEr (enc:=Qm) (ak.fst.fd,(0:Int))))
 (kCb (J1 x1) (kW (sh:=Qf) (Qc.mk (0:Int) (0:Int) (0:Int) (0:Int) (0:Int)) lr fun am=>(kEr (enc:=Qm) (am,(0:Int))))
 (kIx (enc:=Qf) (l:=a9.snd.fst) (k:=(0:Int)) fun an=>(kEr (enc:=Qm) (an,(0:Int))))))))))))
 (hB:=fun v0 af=>(kEr (enc:=Qm) (af.fst,af.snd)))) h))
 (fun VA Yb Q91 Q92 x3 x4 x6 x7 o h=>
 Lp2 (hs:=[(15,.n eI 15 none),(16,.split),(24,.e Q5),(26,.c Qm),(30,.split),(31,.n Qf 31 none),(36,.e Q5),(38,.cb),(43,.z [{slot:=40,own:=5}] (some (.n Qf 43 (some .a))))]) (kb:=[kk 2,kk 3,kk 4,{slot:=6,own:=5}]) (kbx:=[kk 2,kk 3,kk 4,{slot:=6,fz:=true}]) ((kN _ (mLen (sh:=Qi) x3.ff) fun v0=>(kIfD (p:=x7<v0) (kIxR (l:=x3.ff) (k:=x7) XH fun v1=>(kC (sh:=Qm) (Q91 v1) fun v2=>(kIf (c:=v2.snd !=0) (kW (sh:=Qf) (Qc.mk (0:Int) (0:Int) (0:Int) (0:Int) (0:Int)) lr fun v3=>(kT (nM (sh:=Qf) x6) (kX (alts:=Vs (x0,x3) ()) (.inr (v3,v2.snd)) (.next (.here _ rfl (.cons lr (.cons lr (.cons lr (.cons lr (.cons (LeV.undef (AV.sl (5:Nat) (List.map Qf x6))) .nil))))) (.refl _))))))
 (kIxR (l:=x3.ff) (k:=x7) XH fun v4=>(kCb (J1 v4) (kM0 (alts:=Vs (x0,x3) ()) (Q92 x3 x4 x6 (wr (x7+1))))
 (kA (q:=(x6.length+(1:Nat))*(40:Nat)≤(140737488355328:Nat)∧x6.length+(1:Nat)≤(9223372036854775807:Nat)) (sh:=Qf) (l:=x6) (kO (sh:=Qf) (x6++[v2.fst]) (mA (sh:=Qf) x6 v2.fst) (nA x6 v2.fst) fun v6=>(kM0 (alts:=Vs (x0,x3) ()) (Q92 x3 x4 v6 (wr (x7+1)))))))))))
 (kT (nM (sh:=Qf) x6) (kX (alts:=Vs (x0,x3) ()) (.inl (x4,x6)) (.here _ rfl (.refl _) (.refl _)))))) h))
theorem O3(x0 x1 r)(h:VA x0 x1=some r):PU 197 [Qj x0,Q5 x1] (Qm r):=(FI x0).1 x1 r h
def Vh(s:((List Qw)×Q9×Q1))(u:List Qa)(o:Qc ⊕ (Qc×Int)):List Alt:=lp o (.exit 0) (fun _=>[.ptr 0 0 0,.ptr 1 0 0,.ptr 2 0 0,.undef]) (fun x=>[.cells 0 (Qj s.2.1).cells,.cells 0 (Q5 s.2.2).cells,.cells 0 (Qf x).cells]) .ret (fun x=>[.ptr 0 0 0,.ptr 1 0 0,.ptr 2 0 0,ii x.2]) (fun x=>[.cells 0 (Qj s.2.1).cells,.cells 0 (Q5 s.2.2).cells,.cells 0 (Qf x.1).cells])
def Xr(x1:List Qw)(x3:Q9)(x6:Qc)(x9:List Qa)(a3:Int):Option (Qc ⊕ (Qc×Int)):=
 some (List.length x9:Int)>>=fun v0=>
 if a3<v0 then
 Option.map Qa.f (ix x9 a3)>>=fun v1=>
 No x3 x1 v1>>=fun v2=>
 if v2 !=0 then
 some ((Qc.mk (0:Int) (0:Int) (0:Int) (0:Int) (0:Int)))>>=fun v3=>
 some (.inr (v3,v2))
 else
 Xr x1 x3 x6 x9 (wr (a3+1))
 else
 some (.inl x6)
 partial_fixpoint
theorem Eo(x1:List Qw)(x3:Q9)(x5:Q1)(x6:Qc)(x9:List Qa)(a3:Int)(o:Qc ⊕ (Qc×Int))(h:Xr x1 x3 x6 x9 a3=some o):LO 168 6 42 [1,3,5,6,9,10] [.sl 2 (List.map Qv x1),.ptr 0 0 0,.ptr 1 0 0,.ptr 2 0 0,.sl 13 (List.map Qi x9),ii a3] [.cells 0 (Qj x3).cells,.cells 0 (Q5 x5).cells,.cells 0 (Qf x6).cells] [3,5,6,7] (Vh (x1,x3,x5) x9 o):=
 Xr.partial_correctness x1 x3 x6 x9 (fun a3 o=>∀(x5:Q1),LO 168 6 42 [1,3,5,6,9,10] [.sl 2 (List.map Qv x1),.ptr 0 0 0,.ptr 1 0 0,.ptr 2 0 0,.sl 13 (List.map Qi x9),ii a3] [.cells 0 (Qj x3).cells,.cells 0 (Q5 x5).cells,.cells 0 (Qf x6).cells] [3,5,6,7] (Vh (x1,x3,x5) x9 o))
 (fun Xr Q90 a3 o h x5=>
 Lp2 (hs:=[(22,.n eI 22 none),(23,.split),(30,.e Q5),(32,.c eI),(34,.split),(35,.n Qf 35 none)]) (kb:=[kk 3,kk 5,kk 6]) (kbx:=[kk 3,kk 5,kk 6]) ((kN _ (mLen (sh:=Qi) x9) fun v0=>(kIfD (p:=a3<v0) (kIxR (l:=x9) (k:=a3) XH fun v1=>(kC (sh:=eI) (O7 x3 x1 v1) fun v2=>(kIf (c:=v2 !=0) (kW (sh:=Qf) (Qc.mk (0:Int) (0:Int) (0:Int) (0:Int) (0:Int)) lr fun v3=>(kX (alts:=Vh (x1,x3,x5) x9) (.inr (v3,v2)) (.next (.here _ rfl (.refl _) (.refl _)))))
 (kM0 (alts:=Vh (x1,x3,x5) x9) (fun y hy=>Q90 (wr (a3+1)) y hy x5)))))
 (kX (alts:=Vh (x1,x3,x5) x9) (.inl x6) (.here _ rfl (.refl _) (.refl _))))) h)) a3 o h x5
def Uh(x0:Q9)(x1:List Qw)(x2:Q1):Option (Qc×Int):=
 Dx x2>>=fun v0=>
 if v0 !=0 then
 some ((Qc.mk (0:Int) (0:Int) (0:Int) (0:Int) (0:Int)))>>=fun v1=>
 some (v1,v0)
 else
 UK x2>>=fun v2=>
 some v2>>=fun v3=>
 Xr x1 x0 (Qc.mk (0:Int) (0:Int) (0:Int) (0:Int) (0:Int)) v2 (0:Int)>>=fun v4=>(match v4 with
 | (.inl v5)=>
 VA x0 x2>>=fun v6=>
 some (v6.fst,v6.snd)
 | (.inr v7)=>
 some (v7.fst,v7.snd))
theorem Nu(x0 x1 x2 r)(h:Uh x0 x1 x2=some r):PU 168 [Qj x0,GH x1,Q5 x2] (Qm r):=
 Pu2 (hs:=[(13,.c eI),(15,.split),(16,.n Qf 16 none),(19,.c YO),(39,.c Qm),(3000007,.l [] [1,3,5,6,9,10] [kk 3,kk 5,kk 6] [3,5,6,7] [kk 3,kk 5,kk 6] (Vh (x1,x0,x2)))]) ((kC (sh:=eI) (Tt x2) fun v0=>(kIf (c:=v0 !=0) (kW (sh:=Qf) (Qc.mk (0:Int) (0:Int) (0:Int) (0:Int) (0:Int)) lr fun v1=>(kEr (enc:=Qm) (v1,v0)))
 (kC (sh:=YO) (Q03 x2) fun v2=>(kL2 v2 (hL:=(Eo x1 x0 x2 (Qc.mk (0:Int) (0:Int) (0:Int) (0:Int) (0:Int)) v2 (0:Int))) (hA:=fun v3 v5=>(kC (sh:=Qm) (O3 x0 x2) fun v6=>(kEr (enc:=Qm) (v6.fst,v6.snd))))
 (hB:=fun v3 v7=>(kEr (enc:=Qm) (v7.fst,v7.snd))))))) h)
def YM(s:((List Qw)×Q9×Qg))(u:Qb)(o:Bool):List Alt:=jb o (fun b=>[.sl 2 (List.map Qv (s.1)),.ptr 0 0 0,.ptr 1 0 0,.ptr 2 0 0,.bool b]) [.cells 0 (Qj (s.2.1)).cells,.cells 0 (Qp (s.2.2)).cells,.cells 0 (Q4 u).cells]
def KS(s:Unit)(u:Int)(o:Bool):List Alt:=jb o (fun b=>[ii u,.bool b]) []
def WE(x0:Q9)(x1:List Qw)(x2:Qg):Option Int:=
 some ((QS.mk (3:Int) x2.fa (gVal.mk (0:Int) (0:Int)) (Qc.mk (0:Int) (0:Int) (0:Int) (0:Int) (0:Int)) (gLin.mk (0:Int) []) x2.fe []:Q1))>>=fun v0=>
 Uh x0 x1 v0>>=fun v1=>
 if v1.snd !=0 then
 some v1.snd
 else
 Vj x0 x2.fa>>=fun v2=>
 some v2.fst>>=fun v3=>
 (if v2.fst.fF==1 then
 some true
 else
 if x2.fOp==3 then
 if x2.fA<1 then
 some true
 else
 if 4<x2.fA then
 some true
 else
 some false
 else
 some false)>>=fun v4=>if v4 then
 some (1:Int)
 else
 Uh x0 x1 x2.fg>>=fun v7=>
 some v7.snd>>=fun v8=>
 (if v7.snd==0 then
 XP x2.fg>>=fun a6=>if a6 then
 some true
 else
 if !(v7.fst.fk==v3.fd.fk&& (v7.fst.fm==v3.fd.fm&& (v7.fst.fv==v3.fd.fv&& (v7.fst.fo==v3.fd.fo&& (v7.fst.fw==v3.fd.fw&&true))))) then
 some true
 else
 some false
 else
 some false)>>=fun v9=>if v9 then
 some (10:Int)
 else
 some v8
theorem P5(x0 x1 x2 r)(h:WE x0 x1 x2=some r):PU 170 [Qj x0,GH x1,Qp x2] (eI r):=
 Pu2 (hs:=[(20,.n Q5 20 none),(21,.c Qm),(25,.split),(31,.c QE),(36,.split),(40,.split),(44,.split),(48,.split),(57,.c Qm),(61,.split),(65,.cb),(70,.split),(5000005,.l [] [] [] [1,3,5,9,51] [kk 3,kk 5,kk 9] (YM (x1,x0,x2))),(5000008,.l [] [] [] [12,72] [] (KS ()))]) ((kW (sh:=Q5) (QS.mk (3:Int) x2.fa (gVal.mk (0:Int) (0:Int)) (Qc.mk (0:Int) (0:Int) (0:Int) (0:Int) (0:Int)) (gLin.mk (0:Int) []) x2.fe []:Q1) (LeV.agg (.cons lr (.cons lr (.cons lr (.cons lr (.cons lr (.cons lr (.cons lr (.cons lr (.cons lr (.cons lr (.cons (LeV.nil 2) (.cons lr (.cons (LeV.nil 13) .nil)))))))))))))) fun v0=>(kC (sh:=Qm) (Nu x0 x1 v0) fun v1=>(kIf (c:=v1.snd !=0) (kEr (enc:=eI) v1.snd)
 (kC (sh:=QE) (Dh x0 x2.fa) fun v2=>(kJb (id:=5000005) v2.fst (fun v3 a3 v4=>(kIf (c:=v2.fst.fF==1) (kXj (alts:=YM (x1,x0,x2)) a3 true (.here () rfl (.refl _) (.refl _)))
 (kIf (c:=x2.fOp==3) (kIfD (p:=x2.fA<1) (kXj (alts:=YM (x1,x0,x2)) a3 true (.here () rfl (.refl _) (.refl _)))
 (kIfD (p:=4<x2.fA) (kXj (alts:=YM (x1,x0,x2)) a3 true (.here () rfl (.refl _) (.refl _)))
 (kXj (alts:=YM (x1,x0,x2)) a3 false (.next (.here () rfl (.refl _) (.refl _))))))
 (kXj (alts:=YM (x1,x0,x2)) a3 false (.next (.here () rfl (.refl _) (.refl _)))))))
 (fun v3=>(kEr (enc:=eI) (1:Int)))
 (fun v3=>(kC (sh:=Qm) (Nu x0 x1 x2.fg) fun v7=>(kJb (id:=5000008) v7.snd (fun v8 a4 v9=>(kIf (c:=v7.snd==0) (kCb (J1 x2.fg) (kXj (alts:=KS ()) a4 true (.here () rfl (.refl _) (.refl _)))
 (kIf (c:= !(v7.fst.fk==v3.fd.fk&& (v7.fst.fm==v3.fd.fm&& (v7.fst.fv==v3.fd.fv&& (v7.fst.fo==v3.fd.fo&& (v7.fst.fw==v3.fd.fw&&true)))))) (kXj (alts:=KS ()) a4 true (.here () rfl (.refl _) (.refl _)))
 (kXj (alts:=KS ()) a4 false (.next (.here () rfl (.refl _) (.refl _))))))
 (kXj (alts:=KS ()) a4 false (.next (.here () rfl (.refl _) (.refl _))))))
 (fun v8=>(kEr (enc:=eI) (10:Int)))
 (fun v8=>(kEr (enc:=eI) v8)))))))))) h)
def UA(s:Qg)(u:Unit)(o:Bool):List Alt:=jb o (fun b=>[.ptr 0 0 0,.bool b]) [.cells 0 (Qp s).cells]
def Kt(s:Unit)(u:Unit)(o:Bool):List Alt:=jb o (fun b=>[.bool b]) []
def UB(s:Unit)(u:Int)(o:Bool):List Alt:=jb o (fun b=>[ii u,.bool b]) []
def Mb(x0:Q9)(x1:List Qw)(x2:List Str)(x3:Qg):Option Int:=
 WD x3>>=fun v0=>if v0 then
 if x3.fOp==1 then
 Vj x0 x3.fa>>=fun v1=>
 UI x3.fa>>=fun v2=>if v2 then
 some ()>>=fun v3=>
 (if v1.snd then
 some true
 else
 Vw x2 x3.fa>>=fun v5=>if v5 then
 some true
 else
 some false)>>=fun v4=>if v4 then
 some (8:Int)
 else
 some ()>>=fun v8=>
 (if x3.fy<1 then
 some true
 else
 if 65536<x3.fy then
 some true
 else
 if x3.fB<0 then
 some true
 else
 if 3<x3.fB then
 some true
 else
 some false)>>=fun v9=>if v9 then
 some (1:Int)
 else
 some (0:Int)
 else
 some (7:Int)
 else
 if x3.fOp==4 then
 Uh x0 x1 x3.fg>>=fun a4=>
 some a4.snd>>=fun a5=>
 (if a4.snd==0 then
 XP x3.fg>>=fun a7=>if a7 then
 some false
 else
 some true
 else
 some false)>>=fun a6=>if a6 then
 some (10:Int)
 else
 some a5
 else
 WE x0 x1 x3>>=fun a8=>
 some a8
 else
 some (5:Int)
theorem Q04(x0 x1 x2 x3 r)(h:Mb x0 x1 x2 x3=some r):PU 126 [Qj x0,GH x1,eLS x2,Qp x3] (eI r):=
 Pu2 (hs:=[(14,.cb),(19,.split),(24,.c QE),(30,.cb),(33,.split),(38,.cb),(43,.split),(47,.split),(52,.split),(57,.split),(60,.split),(66,.c Qm),(70,.split),(74,.cb),(81,.c eI),(5000008,.l [] [] [] [7,32] [kk 7] (UA x3)),(5000010,.l [] [] [] [40] [] (Kt ())),(5000015,.l [] [] [] [12,76] [] (UB ()))]) ((kCb (P4 x3) (kIf (c:=x3.fOp==1) (kC (sh:=QE) (Dh x0 x3.fa) fun v1=>(kCb (Wg x3.fa) (kJb (id:=5000008) () (fun v3 a5 v4=>(kIf (c:=v1.snd) (kXj (alts:=UA x3) a5 true (.here () rfl (.refl _) (.refl _)))
 (kCb (Hd x2 x3.fa) (kXj (alts:=UA x3) a5 true (.here () rfl (.refl _) (.refl _)))
 (kXj (alts:=UA x3) a5 false (.next (.here () rfl (.refl _) (.refl _)))))))
 (fun v3=>(kEr (enc:=eI) (8:Int)))
 (fun v3=>(kJb (id:=5000010) () (fun v8 a4 v9=>(kIfD (p:=x3.fy<1) (kXj (alts:=Kt ()) a4 true (.here () rfl (.refl _) (.refl _)))
 (kIfD (p:=65536<x3.fy) (kXj (alts:=Kt ()) a4 true (.here () rfl (.refl _) (.refl _)))
 (kIfD (p:=x3.fB<0) (kXj (alts:=Kt ()) a4 true (.here () rfl (.refl _) (.refl _)))
 (kIfD (p:=3<x3.fB) (kXj (alts:=Kt ()) a4 true (.here () rfl (.refl _) (.refl _)))
 (kXj (alts:=Kt ()) a4 false (.next (.here () rfl (.refl _) (.refl _)))))))))
 (fun v8=>(kEr (enc:=eI) (1:Int)))
 (fun v8=>(kEr (enc:=eI) (0:Int))))))
 (kEr (enc:=eI) (7:Int))))
 (kIf (c:=x3.fOp==4) (kC (sh:=Qm) (Nu x0 x1 x3.fg) fun a7=>(kJb (id:=5000015) a7.snd (fun a6 a3 ac=>(kIf (c:=a7.snd==0) (kCb (J1 x3.fg) (kXj (alts:=UB ()) a3 false (.next (.here () rfl (.refl _) (.refl _))))
 (kXj (alts:=UB ()) a3 true (.here () rfl (.refl _) (.refl _))))
 (kXj (alts:=UB ()) a3 false (.next (.here () rfl (.refl _) (.refl _))))))
 (fun a6=>(kEr (enc:=eI) (10:Int)))
 (fun a6=>(kEr (enc:=eI) a6))))
 (kC (sh:=eI) (P5 x0 x1 x3) fun a8=>(kEr (enc:=eI) a8))))
 (kEr (enc:=eI) (5:Int))) h)
def Vt(s:((List Qw)× (List Q0)× (List Int)×Q9))(u:Unit)(o:((List Str)×QH) ⊕ QH):List Alt:=lp o (.exit 0) (fun x=>[.sl 1 (List.map eS x.1),.ptr 0 0 0]) (fun x=>[.cells 0 (Zr x.2).cells]) .ret (fun _=>[.undef,.ptr 0 0 0]) (fun x=>[.cells 0 (Zr x).cells])
def Dd(s:((List Qw)× (List Q0)× (List Int)×Q9))(u:(QH×Int× (List Int)))(o:((List Str)× (List Qw))):List Alt:=l1 o .normal (fun x=>[.sl 2 (List.map Qv (s.1)),.sl 1 (List.map eS (x.1)),.sl 20 (List.map Q6 (s.2.1)),.sl 1 (List.map eI (s.2.2.1)),.ptr 0 0 0,.ptr 1 0 0,ii (u.2.1),.sl 1 (List.map eI (u.2.2)),.sl 2 (List.map Qv (x.2))]) (fun _=>[.cells 0 (Qj (s.2.2.2)).cells,.cells 0 (Zr (u.1)).cells])
mutual
def VB(x0:Q9)(x1:List Qw)(x2:List Str)(x3:List Q0)(x4:List Int):Option QH:=
 some ()>>=fun v0=>
 K1 x1 x2 x3 x4 x0 (QH.mk [] [] (0:Int)) (0:Int)>>=fun v1=>(match v1 with
 | (.inl v2)=>
 some ((QH.mk v2.fst [] (0:Int)))>>=fun v3=>
 some v3
 | (.inr v4)=>
 some v4)
 partial_fixpoint
def K1(x1:List Qw)(x2:List Str)(x3:List Q0)(x4:List Int)(x5:Q9)(ab:QH)(a3:Int):Option (((List Str)×QH) ⊕ QH):=
 some (List.length x3:Int)>>=fun v0=>
 if a3<v0 then
 if(0:Nat)=(0:Nat)∧((0:Nat)+(List.map eI x4).length)*(8:Nat)≤(140737488355328:Nat)∧(0:Nat)+(List.map eI x4).length≤(9223372036854775807:Nat) then
 some ([]++x4)>>=fun v1=>
 if(v1.length+(1:Nat))*(8:Nat)≤(140737488355328:Nat)∧v1.length+(1:Nat)≤(9223372036854775807:Nat) then
 some (v1++[a3])>>=fun v2=>
 Option.map Q0.f (ix x3 a3)>>=fun v3=>
 Mb x5 x1 x2 v3>>=fun v4=>
 if v4 !=0 then
 some ((QH.mk [] v2 v4))>>=fun v5=>
 some (.inr v5)
 else
 some (ab,a3,v2)>>=fun v6=>
 (Option.map Q0.f (ix x3 a3)>>=fun v8=>
 if v8.fOp==1 then
 if(0:Nat)=(0:Nat)∧((0:Nat)+(List.map eS x2).length)*(16:Nat)≤(140737488355328:Nat)∧(0:Nat)+(List.map eS x2).length≤(9223372036854775807:Nat) then
 Option.map Q0.f (ix x3 a3)>>=fun v9=>
 if(0:Nat)+(List.map eS x2).length=([]++List.map eS x2).length∧((0:Nat)+(List.map eS x2).length+(1:Nat))*(16:Nat)≤(140737488355328:Nat)∧(0:Nat)+(List.map eS x2).length+(1:Nat)≤(9223372036854775807:Nat) then
 some (([]++x2)++[v9.fa])>>=fun af=>
 if(0:Nat)=(0:Nat)∧((0:Nat)+(List.map Qv x1).length)*(24:Nat)≤(140737488355328:Nat)∧(0:Nat)+(List.map Qv x1).length≤(9223372036854775807:Nat) then
 Option.map Q0.f (ix x3 a3)>>=fun a8=>
 Option.map Q0.f (ix x3 a3)>>=fun a9=>
 some ((Qw.mk a8.fa a9.fy))>>=fun an=>
 if(0:Nat)+(List.map Qv x1).length=([]++List.map Qv x1).length∧((0:Nat)+(List.map Qv x1).length+(1:Nat))*(24:Nat)≤(140737488355328:Nat)∧(0:Nat)+(List.map Qv x1).length+(1:Nat)≤(9223372036854775807:Nat) then
 some (([]++x1)++[(Qw.mk a8.fa a9.fy)])>>=fun ag=>
 some (af,ag)
 else none
 else none
 else none
 else none
 else
 some (x2,x1))>>=fun aa=>
 Option.map Q0.f (ix x3 v6.snd.fst)>>=fun ah=>
 VB x5 aa.snd aa.fst ah.fb v6.snd.snd>>=fun a7=>
 if a7.fE !=0 then
 some (.inr a7)
 else
 K1 x1 a7.fG x3 x4 x5 v6.fst (wr (v6.snd.fst+1))
 else none
 else none
 else
 some (.inl (x2,ab))
 partial_fixpoint
end
theorem FJ(x0:Q9):(∀(x1:List Qw) (x2:List Str) (x3:List Q0) (x4:List Int) (r:QH),VB x0 x1 x2 x3 x4=some r→PU 84 [Qj x0,GH x1,eLS x2,Qn x3,eLI x4] (Zr r))∧(∀(x1:List Qw) (x2:List Str) (x3:List Q0) (x4:List Int) (ab:QH) (a4:Int) (o:((List Str)×QH) ⊕ QH),K1 x1 x2 x3 x4 x0 ab a4=some o→LO 84 2 92 [1,2,3,4,5,10,11] [.sl 2 (List.map Qv x1),.sl 1 (List.map eS x2),.sl 20 (List.map Q6 x3),.sl 1 (List.map eI x4),.ptr 0 0 0,.ptr 1 0 0,ii a4] [.cells 0 (Qj x0).cells,.cells 0 (Zr ab).cells] [2,10] (Vt (x1,x3,x4,x0) () o)):=
 VB.mutual_partial_correctness x0 _ _
 (fun K1 Q94 x1 x2 x3 x4 r h=>
 Pu2 (hs:=[(91,.n Zr 91 none),(3000003,.l [] [1,2,3,4,5,10,11] [{slot:=2,fz:=true},kk 5,kk 10] [2,10] [{slot:=2,fz:=true},kk 10] (Vt (x1,x3,x4,x0)))]) ((kL2 () (hL:=(fun y hy=>X7.le (.cons lr (.cons lr (.cons lr (.cons lr (.cons lr (.cons lr (.cons lr .nil))))))) (.cons (LeB.refl (Box.cells (0:Nat) [AV.sl (8:Nat) (List.map Q4 x0.fc),AV.sl (20:Nat) (List.map Q6 x0.fb)])) (.cons (LeB.cells (0:Nat) (.cons (LeV.nil 1) (.cons (LeV.nil 1) (.cons lr .nil)))) .nil)) (Q94 x1 x2 x3 x4 (QH.mk [] [] (0:Int)) (0:Int) y hy))) (hA:=fun v0 v2=>(kW (sh:=Zr) (QH.mk v2.fst [] (0:Int)) (LeV.agg (.cons lr (.cons (LeV.nil 1) (.cons lr .nil)))) fun v3=>(kEr (enc:=Zr) v3)))
 (hB:=fun v0 v4=>(kEr (enc:=Zr) v4))) h))
 (fun VB K1 Q93 Q94 x1 x2 x3 x4 ab a4 o h=>
 Lp2 (hs:=[(18,.n eI 18 none),(19,.split),(24,.z [{slot:=22,own:=1}] (some (.n eI 24 (some .a)))),(27,.z [{slot:=24,own:=1}] (some (.n eI 27 (some .a)))),(12,.z [{slot:=27,fz:=true}] none),(33,.e Qp),(35,.c eI),(37,.split),(40,.n Zr 40 none),(44,.e Qp),(47,.split),(50,.a),(53,.e Qp),(57,.z [{slot:=50,own:=1}] (some (.n eS 57 (some .a)))),(2,.z [{slot:=57,fz:=true}] none),(60,.a),(63,.e Qp),(68,.e Qp),(71,.n Qv 71 none),(73,.z [{slot:=60,own:=2}] (some (.n Qv 73 (some .a)))),(14,.z [{slot:=73,fz:=true}] none),(79,.e Qp),(83,.c Zr),(86,.split),(6000011,.l [] [] [] [1,2,3,4,5,10,11,12,14] [{slot:=2,fz:=true},kk 5,kk 10,{slot:=12,fz:=true},{slot:=14,fz:=true}] (Dd (x1,x3,x4,x0)))]) (kb:=[{slot:=2,fz:=true},kk 5,kk 10]) (kbx:=[{slot:=2,fz:=true},kk 10]) ((kN _ (mLen (sh:=Q6) x3) fun v0=>(kIfD (p:=a4<v0) (kG (p:=(0:Nat)=(0:Nat)∧((0:Nat)+(List.map eI x4).length)*(8:Nat)≤(140737488355328:Nat)∧(0:Nat)+(List.map eI x4).length≤(9223372036854775807:Nat)) (kO (sh:=eI) ([]++x4) (mAA (sh:=eI) [] x4) (nAA (sh:=eI) [] x4) fun v1=>(kA (q:=(v1.length+(1:Nat))*(8:Nat)≤(140737488355328:Nat)∧v1.length+(1:Nat)≤(9223372036854775807:Nat)) (sh:=eI) (l:=v1) (kO (sh:=eI) (v1++[a4]) (mA (sh:=eI) v1 a4) (nA v1 a4) fun v2=>(kT (nM (sh:=eI) v2) (kIxR (l:=x3) (k:=a4) Z7 fun v3=>(kC (sh:=eI) (Q04 x0 x1 x2 v3) fun v4=>(kIf (c:=v4 !=0) (kW (sh:=Zr) (QH.mk [] v2 v4) (LeV.agg (.cons (LeV.nil 1) (.cons lr (.cons lr .nil)))) fun v5=>(kX (alts:=Vt (x1,x3,x4,x0) ()) (.inr v5) (.next (.here _ rfl (.cons (LeV.undef (AV.sl (1:Nat) (List.map eS x2))) (.cons lr .nil)) (.refl _)))))
 (kJ1 (id:=6000011) (ab,a4,v2) (fun v6 af v7=>(kIxR (l:=x3) (k:=a4) Z7 fun v8=>(kIf (c:=v8.fOp==1) (kG (p:=(0:Nat)=(0:Nat)∧((0:Nat)+(List.map eS x2).length)*(16:Nat)≤(140737488355328:Nat)∧(0:Nat)+(List.map eS x2).length≤(9223372036854775807:Nat)) (kIxR (l:=x3) (k:=a4) Z7 fun v9=>(kG (p:=(0:Nat)+(List.map eS x2).length=([]++List.map eS x2).length∧((0:Nat)+(List.map eS x2).length+(1:Nat))*(16:Nat)≤(140737488355328:Nat)∧(0:Nat)+(List.map eS x2).length+(1:Nat)≤(9223372036854775807:Nat)) (kO (sh:=eS) (([]++x2)++[v9.fa]) (mAp (sh:=eS) (mAA (sh:=eS) [] x2) (rfl:List.map eS [v9.fa]=List.map eS [v9.fa])) (by simp:List.length (([]++x2)++[v9.fa])=(0:Nat)+(List.map eS x2).length+(1:Nat)) fun ag=>(kT (nM (sh:=eS) ag) (kG (p:=(0:Nat)=(0:Nat)∧((0:Nat)+(List.map Qv x1).length)*(24:Nat)≤(140737488355328:Nat)∧(0:Nat)+(List.map Qv x1).length≤(9223372036854775807:Nat)) (kIxR (l:=x3) (k:=a4) Z7 fun a9=>(kIxR (l:=x3) (k:=a4) Z7 fun aa=>(kW (sh:=Qv) (Qw.mk a9.fa aa.fy) lr fun ar=>(kG (p:=(0:Nat)+(List.map Qv x1).length=([]++List.map Qv x1).length∧((0:Nat)+(List.map Qv x1).length+(1:Nat))*(24:Nat)≤(140737488355328:Nat)∧(0:Nat)+(List.map Qv x1).length+(1:Nat)≤(9223372036854775807:Nat)) (kO (sh:=Qv) (([]++x1)++[(Qw.mk a9.fa aa.fy)]) (mAp (sh:=Qv) (mAA (sh:=Qv) [] x1) (rfl:List.map Qv [(Qw.mk a9.fa aa.fy)]=List.map Qv [(Qw.mk a9.fa aa.fy)])) (by simp:List.length (([]++x1)++[(Qw.mk a9.fa aa.fy)])=(0:Nat)+(List.map Qv x1).length+(1:Nat)) fun ah=>(kT (nM (sh:=Qv) ah) (kXj (alts:=Dd (x1,x3,x4,x0)) af (ag,ah) (.here _ rfl (.refl _) (.refl _)))))))))))))))
 (kXj (alts:=Dd (x1,x3,x4,x0)) af (x2,x1) (.here _ rfl (.refl _) (.refl _))))))
 (fun v6 ac=>(kIxR (l:=x3) (k:=v6.snd.fst) Z7 fun ao=>(kC (sh:=Zr) (Q93 ac.snd ac.fst ao.fb v6.snd.snd) fun ad=>(kIf (c:=ad.fE !=0) (kX (alts:=Vt (x1,x3,x4,x0) ()) (.inr ad) (.next (.here _ rfl (.cons (LeV.undef (AV.sl (1:Nat) (List.map eS ac.fst))) (.cons lr .nil)) (.refl _))))
 (kM0 (alts:=Vt (x1,x3,x4,x0) ()) (Q94 x1 ad.fG x3 x4 v6.fst (wr (v6.snd.fst+1)))))))))))))))))
 (kX (alts:=Vt (x1,x3,x4,x0) ()) (.inl (x2,ab)) (.here _ rfl (.refl _) (.refl _))))) h))
theorem O4(x0 x1 x2 x3 x4 r)(h:VB x0 x1 x2 x3 x4=some r):PU 84 [Qj x0,GH x1,eLS x2,Qn x3,eLI x4] (Zr r):=(FJ x0).1 x1 x2 x3 x4 r h
def Vm(s:Q9)(u:Unit)(o:Bool):List Alt:=jb o (fun b=>[.ptr 0 0 0,.bool b]) [.cells 0 (Qj s).cells]
def G5(x0:Q9):Option (List Int×Int):=
 VP x0.fb 41>>=fun v0=>
 if 40<v0 then
 some ([],(13:Int))
 else
 some ()>>=fun v1=>
 (JW x0.fb 2000>>=fun v3=>
 if 2000<v3 then
 some true
 else
 some (List.length x0.fc:Int)>>=fun v4=>
 if 128<v4 then
 some true
 else
 some false)>>=fun v2=>if v2 then
 some ([],(2:Int))
 else
 Nm x0>>=fun v7=>
 if v7 !=0 then
 some ([],v7)
 else
 VB x0 [] [] x0.fb []>>=fun v8=>
 some (v8.fH,v8.fE)
theorem Tx(x0 r)(h:G5 x0=some r):PU 34 [Qj x0] (Ji r):=
 Pu2 (hs:=[(8,.c eI),(9,.split),(12,.c eI),(13,.split),(17,.n eI 17 none),(18,.split),(21,.c eI),(23,.split),(28,.c Zr),(5000003,.l [] [] [] [1,19] [kk 1] (Vm x0))]) ((kC (sh:=eI) (P3 x0.fb 41) fun v0=>(kIfD (p:=40<v0) (kE (enc:=Ji) ([],(13:Int)) (LeT.tup (.cons (LeT.nil 1) (.cons (LeT.refl (ii (13:Int))) .nil))))
 (kJb (id:=5000003) () (fun v1 a3 v2=>(kC (sh:=eI) (O8 x0.fb 2000) fun v3=>(kIfD (p:=2000<v3) (kXj (alts:=Vm x0) a3 true (.here () rfl (.refl _) (.refl _)))
 (kN _ (mLen (sh:=Q4) x0.fc) fun v4=>(kIfD (p:=128<v4) (kXj (alts:=Vm x0) a3 true (.here () rfl (.refl _) (.refl _)))
 (kXj (alts:=Vm x0) a3 false (.next (.here () rfl (.refl _) (.refl _)))))))))
 (fun v1=>(kE (enc:=Ji) ([],(2:Int)) (LeT.tup (.cons (LeT.nil 1) (.cons (LeT.refl (ii (2:Int))) .nil)))))
 (fun v1=>(kC (sh:=eI) (O5 x0) fun v7=>(kIf (c:=v7 !=0) (kE (enc:=Ji) ([],v7) (LeT.tup (.cons (LeT.nil 1) (.cons (LeT.refl (ii v7)) .nil))))
 (kC (sh:=Zr) (fun y hy=>Pu.le (O4 x0 [] [] x0.fb [] y hy) (.cons (LeT.refl (AV.agg [AV.sl (8:Nat) (List.map Q4 x0.fc),AV.sl (20:Nat) (List.map Q6 x0.fb)])) (.cons (LeT.nil 2) (.cons (LeT.nil 1) (.cons (LeT.refl (AV.sl (20:Nat) (List.map Q6 x0.fb))) (.cons (LeT.nil 1) .nil))))) (LeT.refl _)) fun v8=>(kEr (enc:=Ji) (v8.fH,v8.fE))))))))) h)
end Go.Proofs.YtkgphhemcglgnaaGreatDoor
end
section
namespace HY
open Go
section
variable {α β : Type}
theorem bS{a:α}{f:α→Option β}:(some a>>=f)=f a:=rfl
theorem omS{a:α}{f:α→β}:Option.map f (some a)=some (f a):=rfl
theorem ND{a b:α}:(if(true=true) then a else b)=a:=rfl
theorem CP{a b:α}:(if(false=true) then a else b)=b:=rfl
end
theorem Yg{α:Type}{l p:List α}{x:α}{t:List α}(h:l=p++x::t):ix l p.length=some x:=by
 unfold ix;rw[if_pos (by omega),Int.toNat_natCast,h,List.getElem?_append_right (Nat.le_refl _)];simp
theorem QM{n:Int}{k:Nat}(h0:0≤n)(h1:n<k)(hk:k≤4611686018427387904):wr (n+1)=n+1:=ZB (by omega)
theorem PE{k:Nat}(h:k≤4611686018427387904):wr ((k:Int)+1)=((k+1:Nat):Int):=by rw[ZB (by omega)];omega
theorem SG{α:Type}{l:List α}{i:Int}(h0:0≤i)(h1:i<l.length):∃x,ix l i=some x∧x∈l:=by
 refine⟨l[i.toNat]'(by omega),?_,List.getElem_mem _⟩
 unfold ix;rw[if_pos h0,List.getElem?_eq_getElem]
end HY
end
section
namespace Go.Proofs.YtkgphhemcglgnaaGreatDoor
open Go HY
def fits(n:Int):Prop:= -9223372036854775808≤n∧n≤9223372036854775807
def kw:List Str:=[[(115:UInt8),(105:UInt8),(122:UInt8),(101:UInt8)],[(119:UInt8),(104:UInt8),(101:UInt8),(114:UInt8),(101:UInt8)],[(105:UInt8),(110:UInt8)],[(100:UInt8),(101:UInt8),(102:UInt8)],[(111:UInt8),(117:UInt8),(116:UInt8)],[(115:UInt8),(117:UInt8),(109:UInt8)],[(112:UInt8),(114:UInt8),(111:UInt8),(100:UInt8)],[(109:UInt8),(105:UInt8),(110:UInt8)],[(109:UInt8),(97:UInt8),(120:UInt8)],[(115:UInt8),(99:UInt8),(97:UInt8),(110:UInt8)],[(111:UInt8),(118:UInt8),(101:UInt8),(114:UInt8)],[(105:UInt8),(102:UInt8)],[(99:UInt8),(97:UInt8),(115:UInt8),(116:UInt8)],[(102:UInt8),(114:UInt8),(97:UInt8),(99:UInt8)],[(105:UInt8),(110:UInt8),(116:UInt8)],[(102:UInt8),(105:UInt8),(120:UInt8)],[(99:UInt8),(101:UInt8),(105:UInt8),(108:UInt8)],[(102:UInt8),(108:UInt8),(111:UInt8),(111:UInt8),(114:UInt8)],[(122:UInt8),(101:UInt8),(114:UInt8),(111:UInt8)],[(101:UInt8),(118:UInt8),(101:UInt8),(110:UInt8)],[(115:UInt8),(97:UInt8),(116:UInt8)],[(119:UInt8),(114:UInt8),(97:UInt8),(112:UInt8)]]
def low(c:UInt8):Bool:=decide (97≤(c.toNat:Int))&&decide ((c.toNat:Int)≤122)
def tl(c:UInt8):Bool:=low c || (decide (48≤(c.toNat:Int))&&decide ((c.toNat:Int)≤57)) || ((c.toNat:Int)==95)
def nm(s:Str):Bool:=decide (1≤(s.length:Int))&& (decide ((s.length:Int)≤16)&& (!(kw.contains s)&& ((match s with | []=>false | c::_=>low c)&&s.all tl)))
theorem E6(l:List Str)(s:Str)(hl:l.length≤1048576):ZA l s 0=some (if l.contains s then .inr true else .inl ()):=by
 refine Mz (F:=fun i=>ZA l s i) (l:=l) (fun t=>if t.contains s then .inr true else .inl ()) ?_ ?_
 ·show ZA l s (l.length:Int)=_;rw[ZA,bS,if_neg (by omega)];rfl
 ·intro i x t h0 h1 a3 ih;show ZA l s i=_;rw[ZA,bS,if_pos (by omega),a3,bS]
  by_cases hx:x=s;·subst hx;simp
  ·rw[if_neg (by simpa using hx),QM h0 h1 (by omega)]
   rw[ih,List.contains_cons];have:(s==x)=false:=by simpa using fun e=>hx e.symm
   rw[this,Bool.false_or]
theorem Q3d(s:Str):Vw kw s=some (kw.contains s):=by
 unfold Vw;rw[bS,E6 kw s (by decide),bS]
 cases kw.contains s<;>rfl
theorem Bo:Lr=some kw:=rfl
theorem AS(s:Str)(hl:s.length≤1048576):Y6 s 0=some (if(match s with | []=>true | c::t=>low c&&t.all tl) then .inl () else .inr false):=by
 have loop:∀(t p:Str),s=p++t→p≠[]→Y6 s p.length=some (if t.all tl then .inl () else .inr false):=by
  intro t
  induction t with
  |nil=>intro p e _;rw[Y6,if_neg (by rw[e];simp)];rfl
  |cons c t ih=>
   intro p e hp;have a3:(p.length:Int)< (s.length:Int):=by rw[e];simp;omega
   have h0:0<p.length:=List.length_pos_iff.2 hp;rw[Y6,if_pos a3,Yg e,bS,bS];have a4:=ih (p++[c]) (by rw[e];simp) (by simp)
   rw[show((p++[c]).length:Int)=(p.length:Int)+1 by simp] at a4
   rw[QM (by omega) a3 (by omega),List.all_cons,a4]
   unfold tl low;by_cases c1:(97:Int)≤c.toNat<;>by_cases c2:(c.toNat:Int)≤122<;>by_cases c3:(48:Int)≤c.toNat<;>by_cases c4:(c.toNat:Int)≤57<;>by_cases c5:(c.toNat:Int)=95<;>simp[c1,c2,c3,c4,c5,h0,bS]<;>omega
 cases s with
 |nil=>rw[Y6,if_neg (by simp)];rfl
 |cons c t=>
  rw[Y6,if_pos (by simp<;>omega),show ix (c::t) 0=some c from rfl,bS,bS]
  have:=loop t [c] rfl (by simp)
  rw[show(([c]:Str).length:Int)=0+1 by rfl] at this
  rw[show wr (0+1)=0+1 from rfl,this];unfold low;by_cases c1:(97:Int)≤c.toNat<;>by_cases c2:(c.toNat:Int)≤122<;>simp[c1,c2,bS]
theorem Wu(s:Str):UI s=some (nm s):=by
 unfold UI nm;rw[bS];by_cases h1:(s.length:Int)<1;·rw[if_pos h1,bS,if_pos rfl,decide_eq_false (by omega)];rfl
 ·rw[if_neg h1,decide_eq_true (by omega)]
  by_cases h2:16< (s.length:Int);·rw[if_pos h2,bS,if_pos rfl,decide_eq_false (by omega)];rfl
  ·have hl:s.length≤1048576:=by omega
   rw[if_neg h2,Bo,bS,Q3d,decide_eq_true (by omega)]
   cases hk:kw.contains s with
   |true=>simp only[bS,if_true];rfl
   |false=>
    simp only[bS,CP];cases s with
    |nil=>simp at h1
    |cons c t=>
     have e2:(low c&& (tl c&&t.all tl))=(low c&&t.all tl):=by
      cases hc:low c;·rfl
      ·have:tl c=true:=by unfold tl;rw[hc];rfl
       rw[this]<;>rfl
     rw[AS (c::t) hl,bS,List.all_cons,e2];show(match(if(low c&&t.all tl)=true then(Sum.inl ():Unit ⊕ Bool) else Sum.inr false) with | .inl v8=>some true | .inr v9=>some v9)=_
     cases(low c&&t.all tl)<;>rfl
theorem AU(s:Str):CG s=some (kw.contains s):=by
 unfold CG;rw[bS];have key:∀(a:Str) (l:List Str) (x:Option Bool),x=some (l.contains s)→(if s==a then some true else x)=some ((a::l).contains s):=fun a l x h=>by
  rw[List.contains_cons];cases e:s==a;·rw[CP,h];rfl
  ·rfl
 have:∀x:Option Bool,x=some (kw.contains s)→(x>>=fun v1=>if v1 then some true else some false)=some (kw.contains s):=fun x h=>by
  rw[h,bS];cases kw.contains s<;>rfl
 refine this _ ?_;unfold kw
 repeat (first | exact rfl | refine key _ _ _ ?_)
theorem Ed(s:Str)(hl:s.length≤1048576):ZF s s.length 0=some (if s.all tl then .inl () else .inr false):=by
 refine Mz (F:=fun i=>ZF s s.length i) (l:=s) (fun t=>if t.all tl then .inl () else .inr false) ?_ ?_
 ·show ZF s s.length (s.length:Int)=_;rw[ZF,if_neg (by omega)];rfl
 ·intro i c t h0 h1 a3 ih;show ZF s s.length i=_;rw[ZF,if_pos h1,a3,bS,bS,QM h0 h1 (by omega),List.all_cons,ih]
  unfold tl low;by_cases c1:(97:Int)≤c.toNat<;>by_cases c2:(c.toNat:Int)≤122<;>by_cases c3:(48:Int)≤c.toNat<;>by_cases c4:(c.toNat:Int)≤57<;>by_cases c5:(c.toNat:Int)=95<;>simp[c1,c2,c3,c4,c5,bS,show((c.toNat:Int)<97)=¬((97:Int)≤c.toNat) by simp,show((c.toNat:Int)<48)=¬((48:Int)≤c.toNat) by simp,show((122:Int)<c.toNat)=¬((c.toNat:Int)≤122) by simp,show((57:Int)<c.toNat)=¬((c.toNat:Int)≤57) by simp]<;>omega
theorem TX(s:Str):Dv s=some (nm s):=by
 unfold Dv nm;rw[bS];by_cases h1:(s.length:Int)<1;·rw[if_pos h1,bS,if_pos rfl,decide_eq_false (by omega)];rfl
 ·rw[if_neg h1,decide_eq_true (by omega)]
  by_cases h2:16< (s.length:Int);·rw[if_pos h2,bS,if_pos rfl,decide_eq_false (by omega)];rfl
  ·have hl:s.length≤1048576:=by omega
   rw[if_neg h2,AU,decide_eq_true (by omega)]
   cases hk:kw.contains s with
   |true=>simp only[bS,if_true];rfl
   |false=>
    simp only[bS,CP];cases s with
    |nil=>simp at h1
    |cons c t=>
     have h3:=Ed (c::t) hl;simp only[show ix (c::t) 0=some c from rfl,bS];unfold low;by_cases c1:(c.toNat:Int)<97;·rw[if_pos c1,bS,if_pos rfl,decide_eq_false (by omega)];rfl
     ·rw[if_neg c1,decide_eq_true (by omega)]
      by_cases c2:(122:Int)<c.toNat;·rw[if_pos c2,bS,if_pos rfl,decide_eq_false (by omega)];rfl
      ·rw[if_neg c2];simp only[bS,CP];rw[h3,bS,decide_eq_true (show(c.toNat:Int)≤122 by omega)]
       cases(c::t).all tl<;>rfl
def badL:Option Zh→List Zh→Bool
 |_,[]=>false
 |p,m::t=>(!(nm m.fa) || ((m.fBy==0) || (match p with | none=>false | some q=> !(Op.bytesLess q.fa m.fa)))) || badL (some m) t
theorem F1(p:Option Zh)(m:Zh)(t:List Zh):badL p (m::t)=((!(nm m.fa) || ((m.fBy==0) || (match p with | none=>false | some q=> !(Op.bytesLess q.fa m.fa)))) || badL (some m) t):=rfl
def okL(l:gLin):Prop:=fits l.fK∧l.fL.length*24≤140737488351232∧∀m∈l.fL,fits m.fBy
def JA(l:gLin):Bool:= !(badL none l.fL)
theorem RX(l:gLin)(h:okL l):XS l l.fL l.fL.length 0=some (if badL none l.fL then .inr 1 else .inl ()):=by
 obtain⟨_,hl,hm⟩:=h;have loop:∀(t p:List Zh),l.fL=p++t→XS l l.fL l.fL.length p.length=some (if badL p.getLast? t then .inr 1 else .inl ()):=by
  intro t
  induction t with
  |nil=>intro p e;rw[XS,if_neg (by rw[e];simp)];rfl
  |cons c t ih=>
   intro p e;have a4:(p.length:Int)< (l.fL.length:Int):=by rw[e];simp;omega
   rw[XS,if_pos a4,Yg e,bS,bS,TX,QM (by omega) a4 (by omega)]
   have a3:=ih (p++[c]) (by rw[e];simp)
   rw[show((p++[c]).length:Int)=(p.length:Int)+1 by simp] at a3
   rw[List.getLast?_concat] at a3;rw[F1];cases hn:nm c.fa with
   |false=>rfl
   |true=>
    cases hb:c.fBy==(0:Int) with
    |true=>simp only[bS,if_true];rfl
    |false=>
     rcases List.eq_nil_or_concat p with rfl | ⟨q,y,hq⟩
     ·simp only[bS,if_true,if_false,Bool.false_eq_true];rw[if_neg (by simp)]
      simp only[bS,if_false,Bool.false_eq_true];rw[a3];rfl
     ·rw[List.concat_eq_append] at hq;subst hq;simp only[bS,if_true,if_false,Bool.false_eq_true];have a6:(((q++[y]).length:Nat):Int)=q.length+1:=by simp
      rw[if_pos (by omega),ZB (by omega)]
      rw[show(((q++[y]).length:Nat):Int) - 1=(q.length:Int) by simp,Yg (show l.fL=q++y::(c::t) by rw[e];simp),bS,List.getLast?_concat]
      cases hb2:Op.bytesLess y.fa c.fa with
      |true=>simp only[hb2,Bool.not_true,Bool.or_false,Bool.false_or,bS,if_false,Bool.false_eq_true];rw[a3]
      |false=>simp only[hb2,Bool.not_false,if_true,bS,Bool.or_true,Bool.true_or]
 exact loop l.fL [] rfl
theorem AT(l:gLin)(h:okL l):CF l=some (if JA l then 0 else 1):=by
 unfold CF JA;rw[bS,bS,RX l h,bS];cases badL none l.fL<;>rfl
theorem EW(l:gLin)(h:okL l):Xn l 0=some (if badL none l.fL then .inr false else .inl ()):=by
 obtain⟨_,hl,hm⟩:=h;have loop:∀(t p:List Zh),l.fL=p++t→Xn l p.length=some (if badL p.getLast? t then .inr false else .inl ()):=by
  intro t
  induction t with
  |nil=>intro p e;rw[Xn,bS,if_neg (by rw[e];simp)];rfl
  |cons c t ih=>
   intro p e;have a4:(p.length:Int)< (l.fL.length:Int):=by rw[e];simp;omega
   have a5:=Yg e;rw[Xn,bS,if_pos a4,bS,a5,bS,Wu,QM (by omega) a4 (by omega)]
   have a3:=ih (p++[c]) (by rw[e];simp)
   rw[show((p++[c]).length:Int)=(p.length:Int)+1 by simp] at a3
   rw[List.getLast?_concat] at a3;rw[F1];cases hn:nm c.fa with
   |false=>rfl
   |true=>
    simp only[bS,ND];cases hb:c.fBy==(0:Int) with
    |true=>simp only[bS,if_true];rfl
    |false=>
     rcases List.eq_nil_or_concat p with rfl | ⟨q,y,hq⟩
     ·simp only[bS,if_true,if_false,Bool.false_eq_true];rw[if_neg (by simp)]
      simp only[bS,if_false,Bool.false_eq_true];rw[a3];rfl
     ·rw[List.concat_eq_append] at hq;subst hq;simp only[bS,if_true,if_false,Bool.false_eq_true];have a7:(((q++[y]).length:Nat):Int)=q.length+1:=by simp
      rw[if_pos (by omega),ZB (by omega)]
      rw[show(((q++[y]).length:Nat):Int) - 1=(q.length:Int) by simp,Yg (show l.fL=q++y::(c::t) by rw[e];simp),bS,List.getLast?_concat]
      cases hb2:Op.bytesLess y.fa c.fa with
      |true=>simp only[hb2,Bool.not_true,Bool.or_false,Bool.false_or,bS,if_false,Bool.false_eq_true];rw[a3]
      |false=>simp only[hb2,Bool.not_false,if_true,bS,Bool.or_true,Bool.true_or]
 exact loop l.fL [] rfl
theorem NH(l:gLin)(h:okL l):Vx l=some (JA l):=by
 unfold Vx JA;rw[bS,EW l h,bS];cases badL none l.fL<;>rfl
def okI(x:Q7):Prop:=okL x.fj∧x.fAt.length*32≤140737488351232∧∀l∈x.fAt,okL l
inductive okE:Qa→Prop
 |mk (x:Q1) (h1:okL x.fj) (h2:x.fe.length*72≤140737488351232) (h3:∀i∈x.fe,okI i) (h4:x.ff.length*160≤140737488351232) (h5:∀a∈x.ff,okE a):okE (.mk x)
inductive okS:Q0→Prop
 |mk (x:Qg) (h1:x.fe.length*72≤140737488351232) (h2:∀i∈x.fe,okI i) (h3:okE (.mk x.fg)) (h4:x.fb.length*256≤140737488351232) (h5:∀a∈x.fb,okS a):okS (.mk x)
def okSs(l:List Q0):Prop:=l.length*256≤140737488351232∧∀a∈l,okS a
theorem okE.of{x:Q1}(h:okE (.mk x)):okL x.fj∧x.fe.length*72≤140737488351232∧(∀i∈x.fe,okI i)∧x.ff.length*160≤140737488351232∧∀a∈x.ff,okE a:=by
 cases h with | mk _ h1 h2 h3 h4 h5=>exact⟨h1,h2,h3,h4,h5⟩
theorem okS.of{x:Qg}(h:okS (.mk x)):x.fe.length*72≤140737488351232∧(∀i∈x.fe,okI i)∧okE (.mk x.fg)∧okSs x.fb:=by
 cases h with | mk _ h1 h2 h3 h4 h5=>exact⟨h1,h2,h3,h4,h5⟩
def DB(n:Int):List Int→Option Int
 | []=>some n
 |v::t=>if v<1∨4096<n*v then none else DB (n*v) t
theorem EX{n v:Int}{t:List Int}(h:v<1∨4096<n*v):DB n (v::t)=none:=by rw[DB,if_pos h]
theorem Bv{n v:Int}{t:List Int}(h:¬(v<1∨4096<n*v)):DB n (v::t)=DB (n*v) t:=by rw[DB,if_neg h]
end Go.Proofs.YtkgphhemcglgnaaGreatDoor
end
section
namespace Go.Proofs.YtkgphhemcglgnaaGreatDoor
open Go HY
def zT:Qc:=⟨0,0,0,0,0⟩
def tyOK(t:Qc):Bool:=if t.fk=1∨t.fk=3 then t.fm==0&& (t.fv==0&& (t.fo==0&&t.fw==0)) else decide (t.fk=2∧2≤t.fm∧t.fm≤31∧0≤t.fv∧t.fv≤30∧1≤t.fo∧t.fo≤4∧(t.fw=1∨t.fw=2))
def Ld(d:List Int):Int:=if 6<d.length then 2 else if d.any (fun v=>decide (v<1)) then 1 else if(DB 1 d).isSome then 0 else 2
def vlOK(t:Qc)(v:gVal):Bool:=
 if t.fk=2 then decide (v.fD=1∧ -(2^ (t.fm - 1).toNat:Int)≤v.fN∧v.fN< (2^ (t.fm - 1).toNat:Int))
 else decide (-2147483647≤v.fN∧v.fN≤2147483647∧1≤v.fD∧v.fD≤2147483647∧(if t.fk=3 then v.fD=1 else Nat.gcd v.fN.natAbs v.fD.natAbs=1))
def zLn(l:gLin):Bool:=l.fK==0&&l.fL.isEmpty
def wfI(i:Q7):Bool:=if i.fu=[] then i.fAt.isEmpty else zLn i.fj
def plE(x:Q1):Bool:=decide (1≤x.fOp∧x.fOp≤18∧(x.fOp=1∨(x.fx.fN=0∧x.fx.fD=0))∧(x.fOp=1∨x.fOp=12∨x.fd=zT)∧(x.fOp=2∨zLn x.fj=true)∧(x.fOp=3∨(x.fa=[]∧x.fe=[])))&&x.fe.all wfI
def naE(x:Q1):Bool:=(x.fOp !=3 || nm x.fa)&&x.fe.all fun i=>i.fu==[] || nm i.fu
def Mg(op:Int):Int:=if op=1∨op=2∨op=3 then 0 else if op=8∨op=12∨op=18 then 1 else if op=11 then 3 else 2
def isC(x:Q1):Bool:=decide (13≤x.fOp)&&decide (x.fOp≤18)
def Dp(op i:Int):Bool:=(op==11&&i==0) || op==16 || op==17 || op==18
def raE(x:Q1):Bool:=decide ((x.ff.length:Int)=Mg x.fOp∧x.fe.length≤6)&&x.fe.all fun i=>decide (i.fAt.length≤6)
def argG(op:Int):Int→List Qa→Bool
 |_,[]=>true
 |i,a::t=>(isC a.f==Dp op i)&&argG op (i+1) t
def tyE(x:Q1):Bool:=(!(decide (x.fOp=1∨x.fOp=12)) || tyOK x.fd)&&argG x.fOp 0 x.ff
def foE(x:Q1):Bool:=(x.fOp !=1 || vlOK x.fd x.fx)&& (UG x).all JA
def KP(x:Q1):Int:=if plE x=false then 5 else if naE x=false then 7 else if raE x=false then 11 else if tyE x=false then 10 else if foE x=false then 1 else 0
def fstE{α:Type}(f:α→Int):List α→Int
 | []=>0
 |a::t=>if f a≠0 then f a else fstE f t
def maxL(l:List Nat):Nat:=l.foldr max 0
def dpE:Qa→Nat
 | .mk x=>1+maxL (x.ff.attach.map fun a=>dpE a.1)
 termination_by e=>SizeOf.sizeOf e
 decreasing_by exact Qa.lt a.2
def C8(e:Q1):Int:=if 40<dpE (.mk e) then 13 else if 2000< (Qy (.mk e)).length then 2 else fstE (fun y=>KP y.f) (Qy (.mk e))
def ZK(a3:List Qb)(a4:Str):Option Qb:=a3.find? fun b=>b.fa==a4
def zBuf:Qb:=Qb.mk [] (Qc.mk (0:Int) (0:Int) (0:Int) (0:Int) (0:Int)) [] (0:Int)
def XK:List Qb→List Qb→Int
 |_,[]=>0
 |p,b::t=>if nm b.fa=false then 7 else if p.any (fun x=>x.fa==b.fa) then 8 else if tyOK b.fd=false then 10 else if Ld b.fC≠0 then Ld b.fC else if b.fF<1∨3<b.fF then 1 else XK (p++[b]) t
def inS(sc:List Str)(l:gLin):Bool:=l.fL.all fun m=>sc.contains m.fa
def Y7(n:Q9):List Q7→Int
 | []=>0
 |i::t=>if i.fu=[] then Y7 n t else match ZK n.fc i.fu with
  |none=>9
  |some b=>if b.fd.fk≠3 then 10 else if b.fC.length≠i.fAt.length then 11 else Y7 n t
def Ka(n:Q9)(sc:List Str)(x:Q1):Int:=if(UG x).all (inS sc)=false then 9 else if x.fOp≠3 then 0 else match ZK n.fc x.fa with
 |none=>9
 |some b=>if b.fC.length≠x.fe.length then 11 else Y7 n x.fe
def kd1(n:Q9)(x:Q1)(l:List (Qc×Int)):Qc×Int:=
 if l.any (fun r=>r.2 !=0) then(zT,10) else if x.fOp=1∨x.fOp=12 then(x.fd,0) else if x.fOp=2 then(⟨3,0,0,0,0⟩,0)
 else if x.fOp=3 then(((ZK n.fc x.fa).getD zBuf).fd,0) else if x.fOp=16∨x.fOp=17∨x.fOp=18 then(zT,0)
 else match l.reverse with
  | []=>(zT,10)
  | [a]=>(a.1,0)
  |a::b::_=>if b.1≠a.1 then(zT,10) else if isC x then(zT,0) else(a.1,0)
def kd(n:Q9):Qa→Qc×Int
 | .mk x=>kd1 n x (x.ff.attach.map fun a=>kd n a.1)
 termination_by e=>SizeOf.sizeOf e
 decreasing_by exact Qa.lt a.2
def KD(n:Q9)(sc:List Str)(x:Q1):Qc×Int:=
 if C8 x≠0 then(zT,C8 x) else if fstE (fun y=>Ka n sc y.f) (Qy (.mk x))≠0 then(zT,fstE (fun y=>Ka n sc y.f) (Qy (.mk x))) else kd n (.mk x)
def isZE(x:Q1):Bool:=decide (x.fOp=0∧x.fa=[]∧x.fx.fN=0∧x.fx.fD=0∧x.fd=zT∧zLn x.fj=true∧x.fe.length=0∧x.ff.length=0)
def plS(x:Qg):Bool:=decide ((x.fOp=1∨x.fOp=2∨x.fOp=3∨x.fOp=4)∧(x.fOp=4→x.fa=[])∧(x.fOp≠1→x.fy=0∧x.fB=0)∧(x.fOp≠3→x.fA=0)∧(¬(x.fOp=2∨x.fOp=3)→x.fe.length=0)∧(x.fOp=1→isZE x.fg=true)∧(x.fOp=2∨x.fOp=3→x.fb.length=0))
def rdE(x:Qg):Q1:=QS.mk (3:Int) x.fa (gVal.mk (0:Int) (0:Int)) (Qc.mk (0:Int) (0:Int) (0:Int) (0:Int) (0:Int)) (gLin.mk (0:Int) []) x.fe []
def G9(n:Q9)(sc:List Str)(x:Qg):Int:=
 if(KD n sc (rdE x)).2≠0 then(KD n sc (rdE x)).2
 else if((ZK n.fc x.fa).getD zBuf).fF=1∨(x.fOp=3∧(x.fA<1∨4<x.fA)) then 1
 else if(KD n sc x.fg).2≠0 then(KD n sc x.fg).2
 else if isC x.fg=true∨(KD n sc x.fg).1≠((ZK n.fc x.fa).getD zBuf).fd then 10 else 0
def N9(n:Q9)(a3:List Str)(x:Qg):Int:=
 if nm x.fa=false then 7 else if(ZK n.fc x.fa).isSome∨a3.contains x.fa=true then 8 else if x.fy<1∨65536<x.fy∨x.fB<0∨3<x.fB then 1 else 0
def Ke(n:Q9)(sc a3:List Str)(x:Qg):Int:=
 if plS x=false then 5 else if x.fOp=1 then N9 n a3 x
 else if x.fOp=4 then(if(KD n sc x.fg).2≠0 then(KD n sc x.fg).2 else if isC x.fg then 0 else 10)
 else G9 n sc x
abbrev Fl:=List Str×List Int×Int
def bdL(n:Q9)(sc:List Str)(a3:List Int):List (Qg× (List Str→List Str→List Int→Fl))→Int→List Str→Fl
 | [],_,used=>(used,[],0)
 | (x,g)::t,i,used=>
  if Ke n sc used x≠0 then([],a3++[i],Ke n sc used x)
  else if x.fOp=1 then(if(g (sc++[x.fa]) (used++[x.fa]) (a3++[i])).2.2≠0 then g (sc++[x.fa]) (used++[x.fa]) (a3++[i]) else bdL n sc a3 t (i+1) (g (sc++[x.fa]) (used++[x.fa]) (a3++[i])).1)
  else(if(g sc used (a3++[i])).2.2≠0 then g sc used (a3++[i]) else bdL n sc a3 t (i+1) (g sc used (a3++[i])).1)
def bd(n:Q9):Q0→List Str→List Str→List Int→Fl
 | .mk x=>fun sc a3 a4=>bdL n sc a4 (x.fb.attach.map fun a=>(a.1.f,bd n a.1)) 0 a3
 termination_by e=>SizeOf.sizeOf e
 decreasing_by exact Q0.lt a.2
def bdB(n:Q9)(sc:List Str)(a4:List Int)(l:List Q0)(a3:List Str):Fl:=bdL n sc a4 (l.map fun a=>(a.f,bd n a)) 0 a3
theorem Ib(n:Q9)(x:Qg)(sc a3:List Str)(a4:List Int):bd n (.mk x) sc a3 a4=bdB n sc a4 x.fb a3:=by
 rw[bd];simp[bdB]
theorem bd_f(n:Q9)(s:Q0)(sc a3:List Str)(a4:List Int):bd n s sc a3 a4=bdB n sc a4 s.f.fb a3:=by
 cases s with
 |mk x=>rw[Ib];rfl
def dp:Q0→Nat
 | .mk x=>1+maxL (x.fb.attach.map fun a=>dp a.1)
 termination_by e=>SizeOf.sizeOf e
 decreasing_by exact Q0.lt a.2
def dpL(l:List Q0):Nat:=maxL (l.map dp)
def sz:Q0→Nat
 | .mk x=>1+(x.fb.attach.map fun a=>sz a.1).sum
 termination_by e=>SizeOf.sizeOf e
 decreasing_by exact Q0.lt a.2
def szL(l:List Q0):Nat:=(l.map sz).sum
def vd(n:Q9):List Int×Int:=
 if 40<dpL n.fb then([],13) else if 2000<szL n.fb∨128<n.fc.length then([],2) else if XK [] n.fc≠0 then([],XK [] n.fc)
 else((bdB n [] [] n.fb []).2.1,(bdB n [] [] n.fb []).2.2)
end Go.Proofs.YtkgphhemcglgnaaGreatDoor
end
section
namespace Go.Proofs.YtkgphhemcglgnaaGreatDoor
open Go HY
theorem bI{α β:Type}{c:Prop} [Decidable c] {x y:Option α} {f:α→Option β}:((if c then x else y)>>=f)=if c then x>>=f else y>>=f:=by split<;>rfl
theorem M3(t:Qc):YA t=some (if tyOK t=true then 0 else 10):=by
 unfold YA MM Kx tyOK;simp only[bS,bI,ND,CP,beq_iff_eq,bne_iff_ne,Bool.and_eq_true,decide_eq_true_eq,Bool.true_and,Bool.and_true]
 grind
theorem r_Type(t:Qc):DS t=some (tyOK t):=by
 unfold DS tyOK;simp only[bS,beq_iff_eq,bne_iff_ne,Bool.and_eq_true,decide_eq_true_eq,Bool.true_and,Bool.and_true]
 grind
theorem WM(x:Q1):Kh x=some (isC x):=by
 unfold Kh isC
 grind
theorem DN(x:Q1):XP x=some (isC x):=by
 unfold XP isC
 grind
theorem Q2z(op:Int):DZ op=some (Mg op):=by
 unfold DZ Mg;simp only[bS,beq_iff_eq]
 grind
theorem r_args(op:Int):Nl op=some (Mg op):=by
 unfold Nl Mg;simp only[bS,beq_iff_eq]
 grind
theorem Q30(op i:Int):Vy op i=some (Dp op i):=by
 unfold Vy Dp;simp only[bS,beq_iff_eq]
 grind
theorem r_wants(op i:Int):WC op i=some (Dp op i):=by
 unfold WC Dp;simp only[bS,beq_iff_eq]
 grind
theorem wrap32(c:UInt8):IntKind.i32.wrap (c.toNat:Int)=c.toNat:=by
 have:=c.toNat_lt;rw[IntKind.wrap_i32];omega
theorem B5(c:UInt8):Df (c.toNat:Int)=some (low c):=by
 unfold Df low;grind
theorem Q5m(c:UInt8):CE (c.toNat:Int)=some (tl c):=by
 unfold CE MK tl;rw[B5];simp only[bS];grind
def spn(q:UInt8→Bool):Str→Nat
 | []=>0
 |c::t=>if q c then spn q t+1 else 0
theorem Q1v(q:UInt8→Bool):∀s:Str,(spn q s=s.length)=(s.all q=true)∧spn q s≤s.length
 | []=>by simp[spn]
 |c::t=>by
  have ih:=Q1v q t;unfold spn;cases hq:q c with
  |true=>simp only[if_true,List.length_cons,List.all_cons,hq,Bool.true_and,Nat.add_right_cancel_iff];exact⟨ih.1,by omega⟩
  |false=>simp[hq]
theorem Fi(s:Str)(hl:s.length≤1048576):∀(t p:Str),s=p++t→ZY s p.length=some ((p.length:Int)+spn tl t)
 | [],p,e=>by
  rw[ZY];subst e;simp[spn,bS]
 |c::t,p,e=>by
  have ih:=Fi s hl t (p++[c]) (by rw[e];simp)
  have a3:(p.length:Int)<s.length:=by rw[e];simp;omega
  rw[ZY];simp only[bS];rw[if_pos a3,Yg e,bS,wrap32,Q5m,bS];unfold spn;cases hc:tl c with
  |true=>
   simp only[ND,bS];rw[QM (by omega) a3 (by omega)]
   rw[show((p++[c]).length:Int)=(p.length:Int)+1 by simp] at ih
   rw[ih];simp;omega
  |false=>simp[bS]
theorem p_span(s:Str)(hl:s.length≤1048576):D5 s=some (spn tl s:Int):=by
 unfold D5;simp only[bS];have e:ZY s 0=_:=Fi s hl s [] rfl;rw[e];simp[bS]
theorem Q2w(l:List Str)(s:Str)(hl:l.length≤4611686018427387904):∃r,Zw l s l.length 0=some r∧(match r with | .inl _=>l.contains s=false | .inr k=>0≤k∧l.contains s=true):=by
 have key:∀(t p:List Str),l=p++t→∃r,Zw l s l.length p.length=some r∧(match r with | .inl _=>t.contains s=false | .inr k=>0≤k∧t.contains s=true):=by
  intro t
  induction t with
  |nil=>intro p e;subst e;exact⟨_,by rw[Zw];simp;rfl,rfl⟩
  |cons c t ih=>
   intro p e;have a3:(p.length:Int)<l.length:=by rw[e];simp;omega
   rw[Zw,if_pos a3,Yg e,bS,List.contains_cons];cases hc:s==c with
   |true=>exact⟨_,rfl,by omega,rfl⟩
   |false=>
    rw[if_neg (by simp),QM (by omega) a3 hl]
    have:=ih (p++[c]) (by rw[e];simp)
    rw[show((p++[c]).length:Int)=(p.length:Int)+1 by simp] at this
    simpa using this
 exact key l [] rfl
theorem NE(l:List Str)(s:Str)(hl:l.length≤4611686018427387904):ZN l s=some (l.contains s):=by
 obtain⟨r,e,h⟩:=Q2w l s hl;unfold ZN Dg;simp only[bS];rw[e];cases r with
 |inl a=>simp only[bS];rw[h];rfl
 |inr k=>simp only[bS];rw[h.2];simp[h.1]
theorem kwL_kw:kwL=kw:=rfl
theorem HJ(s:Str):Jf s=some (nm s):=by
 unfold Jf nm;cases s with
 |nil=>simp
 |cons c t=>
  simp only[show(!(c::t==([]:Str)))=true from rfl,if_true];by_cases h2:((c::t).length:Int)≤16
  ·rw[if_pos h2,show ix (c::t) 0=some c from rfl,bS,wrap32,B5,bS,decide_eq_true (p:=1≤((c::t).length:Int)) (by simp;omega),decide_eq_true h2]
   simp only[Bool.true_and];cases hc:low c with
   |false=>simp
   |true=>
    rw[if_pos rfl,p_span _ (by omega),bS]
    obtain⟨h3,h4⟩:=Q1v tl (c::t);by_cases h5:spn tl (c::t)=(c::t).length
    ·rw[if_pos (by simp[h5])]
     unfold W6 WS;rw[bS,NE _ _ (by decide),bS,kwL_kw,bS,show(c::t).all tl=true from h3▸h5]
     simp
    ·rw[if_neg (by simpa using (by omega:¬((spn tl (c::t):Int)=(c::t).length)))]
     have:(c::t).all tl=false:=by
      cases h:(c::t).all tl with
      |true=>exact absurd (h3.symm▸h:_) h5
      |false=>rfl
     rw[this];simp
  ·rw[if_neg h2,decide_eq_false (p:=((c::t).length:Int)≤16) h2];simp
theorem idxF{α:Type}{l:List α}{q:α→Bool}{L:Int→Option (Unit ⊕ Int)}{p:α→Option Bool}(hl:l.length≤4611686018427387904)
  (hL:∀i,L i=if i< (l.length:Int) then ix l i>>=fun v=>p v>>=fun b=>if b=true then some (.inr i) else L (wr (i+1)) else some (.inl ()))
  (hp:∀x∈l,p x=some (q x)):∃r,L 0=some r∧(match r with | .inl _=>l.any q=false | .inr k=>0≤k∧l.any q=true):=by
 have key:∀(t p:List α),l=p++t→∃r,L p.length=some r∧(match r with | .inl _=>t.any q=false | .inr k=>0≤k∧t.any q=true):=by
  intro t
  induction t with
  |nil=>intro p e;subst e;exact⟨_,by rw[hL];simp;rfl,rfl⟩
  |cons c t ih=>
   intro p e;have a3:(p.length:Int)<l.length:=by rw[e];simp;omega
   rw[hL,if_pos a3,Yg e,bS,hp c (by rw[e];simp),bS,List.any_cons]
   cases hc:q c with
   |true=>exact⟨_,rfl,by omega,rfl⟩
   |false=>
    rw[if_neg (by simp),QM (by omega) a3 hl]
    have:=ih (p++[c]) (by rw[e];simp)
    rw[show((p++[c]).length:Int)=(p.length:Int)+1 by simp] at this
    simpa using this
 exact key l [] rfl
theorem II{α:Type}(q:α→Bool)(l:List α):(!(l.any fun x=> !(q x)))=l.all q:=by
 induction l with
 |nil=>rfl
 |cons a t ih=>rw[List.any_cons,List.all_cons,← ih];cases q a<;>simp
theorem B4(l:gLin):DG l=some (zLn l):=by
 unfold DG zLn;cases l with
 |mk k t=>cases t<;>simp[bS]<;>grind
theorem B7(i:Q7):D4 i=some (wfI i):=by
 unfold D4 wfI;rw[B4];by_cases h:i.fu=[]
 ·simp only[h,bS,if_true,beq_self_eq_true];cases i.fAt with
  |nil=>rfl
  |cons a t=>simp;omega
 ·simp[h,bS]
theorem p_cf1(l:List Q7)(hl:l.length≤4611686018427387904):Xx l=some (l.any fun i=> !(wfI i)):=by
 obtain⟨r,e,h⟩:=idxF (l:=l) (q:=fun i=> !(wfI i)) (L:=Z0 l l.length) hl (fun i=>by rw[Z0]) (fun x _=>by unfold Nh;rw[B7,bS])
 unfold Xx KV;simp only[bS];rw[e];cases r with
 |inl a=>simp only[bS];rw[h];rfl
 |inr k=>simp only[bS];rw[h.2];simp[h.1]
theorem p_cf2(l:List Q7)(hl:l.length≤4611686018427387904):Xy l=some (l.any fun i=> !(i.fu==[] || nm i.fu)):=by
 obtain⟨r,e,h⟩:=idxF (l:=l) (q:=fun i=> !(i.fu==[] || nm i.fu)) (L:=Z1 l l.length) hl (fun i=>by rw[Z1]) (fun x _=>by unfold NR;rw[HJ];cases x.fu==[]<;>rfl)
 unfold Xy KW;simp only[bS];rw[e];cases r with
 |inl a=>simp only[bS];rw[h];rfl
 |inr k=>simp only[bS];rw[h.2];simp[h.1]
theorem p_cf3(l:List Q7)(hl:l.length≤4611686018427387904):Xz l=some (l.any fun i=> !(decide (i.fAt.length≤6))):=by
 obtain⟨r,e,h⟩:=idxF (l:=l) (q:=fun i=> !(decide (i.fAt.length≤6))) (L:=Z2 l l.length) hl (fun i=>by rw[Z2]) (fun x _=>by unfold MI;simp only[bS];congr 1;rw[Bool.eq_iff_iff];simp;omega)
 unfold Xz KX;simp only[bS];rw[e];cases r with
 |inl a=>simp only[bS];rw[h];rfl
 |inr k=>simp only[bS];rw[h.2];simp[h.1]
theorem plE_eq(x:Q1):plE x=(decide (1≤x.fOp∧x.fOp≤18)&& ((x.fOp==1 || (x.fx.fN==0&& (x.fx.fD==0&&true)))&& ((x.fOp==1 || x.fOp==12 || (x.fd.fk==0&& (x.fd.fm==0&& (x.fd.fv==0&& (x.fd.fo==0&& (x.fd.fw==0&&true))))))&& ((x.fOp==2 || zLn x.fj)&& ((x.fOp==3 || (x.fa==[]&&decide (¬(0:Int)<x.fe.length)))&&x.fe.all wfI))))):=by
 unfold plE;have e1:x.fd=zT↔(x.fd.fk=0∧x.fd.fm=0∧x.fd.fv=0∧x.fd.fo=0∧x.fd.fw=0):=by
  cases x.fd;simp[zT]
 have e2:x.fe=[]↔¬(0:Int)<x.fe.length:=by cases x.fe<;>simp
 rw[Bool.eq_iff_iff];simp only[Bool.and_eq_true,decide_eq_true_eq,Bool.or_eq_true,beq_iff_eq,Bool.and_true];rw[e1,e2];constructor
 ·rintro⟨⟨a,b,c,d,e,f⟩,g⟩;exact⟨⟨a,b⟩,c,by rcases d with d | d | d<;>simp[d],e,f,g⟩
 ·rintro⟨⟨a,b⟩,c,d,e,f,g⟩;exact⟨⟨a,b,c,by rcases d with(d | d) | d<;>simp[d],e,f⟩,g⟩
theorem Q5p(x:Q1)(hl:x.fe.length≤4611686018427387904):Wy x=some (plE x):=by
 rw[plE_eq];unfold Wy;rw[p_cf1 _ hl,B4];simp only[bS,bI,II,ND,CP,if_true,if_false,Bool.false_eq_true];generalize (x.fx.fN==0&& (x.fx.fD==0&&true))=V;generalize (x.fd.fk==0&& (x.fd.fm==0&& (x.fd.fv==0&& (x.fd.fo==0&& (x.fd.fw==0&&true)))))=T;generalize zLn x.fj=Z;generalize (x.fa==[])=N;generalize x.fe.all wfI=A;generalize (x.fe.length:Int)=I;generalize x.fOp=op;cases V<;>cases T<;>cases Z<;>cases N<;>grind
theorem p_names(x:Q1)(hl:x.fe.length≤4611686018427387904):Ng x=some (naE x):=by
 unfold Ng naE;rw[p_cf2 _ hl,HJ];simp only[bS,bI,II,ND,CP,beq_iff_eq]
 grind
theorem p_rank(x:Q1)(hl:x.fe.length≤4611686018427387904):Ma x=some (raE x):=by
 unfold Ma raE;rw[p_cf3 _ hl,Q2z];simp only[bS,bI,II,ND,CP,bne_iff_ne]
 grind
end Go.Proofs.YtkgphhemcglgnaaGreatDoor
end
section
namespace Go.Proofs.YtkgphhemcglgnaaGreatDoor
open Go HY
theorem Q31(d:List Int)(hl:d.length≤1048576):Xe d d.length 0=some (if d.any (fun v=>decide (v<1)) then .inr 1 else .inl ()):=by
 refine Mz (F:=fun i=>Xe d d.length i) (l:=d) (fun t=>if t.any (fun v=>decide (v<1)) then .inr 1 else .inl ()) ?_ ?_
 ·rw[Xe];simp
 ·intro i y t h0 h1 a3 ih;rw[Xe,if_pos h1,a3];simp only[bS,PF h0 h1 (by omega),ih,List.any_cons]
  by_cases h2:y<1<;>simp[h2]
theorem Q1x{n v:Int}(hn:1≤n):((4096:Int).tdiv n<v)↔4096<n*v:=by
 rw[Int.tdiv_eq_ediv_of_nonneg (by omega),Int.ediv_lt_iff_lt_mul (by omega),Int.mul_comm]
theorem tdiv_le{n:Int}(hn:1≤n):0≤(4096:Int).tdiv n∧(4096:Int).tdiv n≤4096:=by
 rw[Int.tdiv_eq_ediv_of_nonneg (by omega)]
 exact⟨Int.ediv_nonneg (by omega) (by omega),Int.ediv_le_self _ (by omega)⟩
theorem Q0d(d:List Int)(hl:d.length≤1048576)(hd:∀v∈d,1≤v):X2 1 d d.length 0=some (if(DB 1 d).isSome then .inl () else .inr 2):=by
 refine Xh (F:=fun n i=>X2 n d d.length i) (l:=d) (fun n t=>1≤n∧n≤4096) (fun n t=>if(DB n t).isSome then .inl () else .inr 2) ?_ ?_ 1 (by omega)
 ·intro n _;rw[X2];simp[DB]
 ·intro i y t n h0 h1 hm a4 hI ih;have hy:=hd y hm;have h4:=tdiv_le hI.1;rw[X2,if_pos h1,a4];simp only[bS,PF h0 h1 (by omega)]
  rw[if_pos (show n≠0 by omega),ZB (by omega)]
  by_cases h2:4096<n*y;·rw[if_pos ((Q1x hI.1).2 h2),EX (.inr h2)];rfl
  ·have hp:n≤n*y:=by
    have:=Int.mul_le_mul_of_nonneg_left hy (show 0≤n by omega);rwa [Int.mul_one] at this
   rw[if_neg (fun h=>h2 ((Q1x hI.1).1 h)),Bv (by omega),ZB (by omega)]
   exact ih _ (by omega)
theorem p_shape(d:List Int):Dy d=some (Ld d):=by
 unfold Dy Ld;simp only[bS];by_cases h6:(6:Int)<d.length;·rw[if_pos h6,if_pos (by omega)]
 ·have hl:d.length≤1048576:=by omega
  rw[if_neg h6,if_neg (by omega),Q31 d hl]
  by_cases ha:d.any (fun v=>decide (v<1))=true
  ·rw[if_pos ha,if_pos ha];rfl
  ·rw[if_neg ha,bS,if_neg ha];simp only;rw[Q0d d hl (fun v hv=>by
    have:¬v<1:=fun h=>ha (List.any_eq_true.2 ⟨v,hv,by simpa using h⟩)
    omega)]
   cases hs:(DB 1 d).isSome<;>simp[bS]
theorem Q3a(d:List Int)(hl:d.length≤1048576):Xd d 0=some (if d.any (fun v=>decide (v<1)) then .inr 1 else .inl ()):=by
 refine Mz (F:=fun i=>Xd d i) (l:=d) (fun t=>if t.any (fun v=>decide (v<1)) then .inr 1 else .inl ()) ?_ ?_
 ·rw[Xd];simp[bS]
 ·intro i y t h0 h1 a3 ih;rw[Xd,bS,if_pos h1,a3];simp only[bS,PF h0 h1 (by omega),ih,List.any_cons]
  by_cases h2:y<1<;>simp[h2]
theorem Q0j(d:List Int)(hl:d.length≤1048576)(hd:∀v∈d,1≤v):X1 d 1 0=some (if(DB 1 d).isSome then .inl () else .inr 2):=by
 refine Xh (F:=fun n i=>X1 d n i) (l:=d) (fun n t=>1≤n∧n≤4096) (fun n t=>if(DB n t).isSome then .inl () else .inr 2) ?_ ?_ 1 (by omega)
 ·intro n _;rw[X1];simp[DB,bS]
 ·intro i y t n h0 h1 hm a3 hI ih;have hy:=hd y hm;rw[X1,bS,if_pos h1,a3];simp only[bS,PF h0 h1 (by omega)]
  have hp:n≤n*y:=by
   have:=Int.mul_le_mul_of_nonneg_left hy (show 0≤n by omega);rwa [Int.mul_one] at this
  have hq:y≤n*y:=by
   have:=Int.mul_le_mul_of_nonneg_right hI.1 (show 0≤y by omega);rwa [Int.one_mul] at this
  by_cases h3:4096<y;·rw[if_pos h3,EX (.inr (by omega))];rfl
  ·have hr:n*y≤16777216:=by
    have:=Int.mul_le_mul hI.2 (show y≤4096 by omega) (by omega) (by omega);omega
   rw[if_neg h3,ZB (by omega)]
   by_cases h2:4096<n*y;·rw[if_pos h2,EX (.inr h2)];rfl
   ·rw[if_neg h2,Bv (by omega)]
    exact ih _ (by omega)
theorem r_shape(d:List Int):Dw d=some (Ld d):=by
 unfold Dw Ld;simp only[bS];by_cases h6:(6:Int)<d.length;·rw[if_pos h6,if_pos (by omega)]
 ·have hl:d.length≤1048576:=by omega
  rw[if_neg h6,if_neg (by omega),Q3a d hl]
  by_cases ha:d.any (fun v=>decide (v<1))=true
  ·rw[if_pos ha,if_pos ha];rfl
  ·rw[if_neg ha,bS,if_neg ha];simp only;rw[Q0j d hl (fun v hv=>by
    have:¬v<1:=fun h=>ha (List.any_eq_true.2 ⟨v,hv,by simpa using h⟩)
    omega)]
   cases hs:(DB 1 d).isSome<;>simp[bS]
theorem pw2(b:Int)(h:2≤b∧b≤31):1≤(2:Int)^ (b - 1).toNat∧(2:Int)^ (b - 1).toNat≤1073741824∧min (b - 1).toNat 64=(b - 1).toNat:=by
 obtain⟨k,rfl⟩:∃k:Nat,b=k+1:=⟨(b - 1).toNat,by omega⟩
 have hk:k≤30:=by omega
 rw[show((k:Int)+1 - 1).toNat=k by omega]
 refine⟨?_,?_,by omega⟩
 ·have:1≤(2:Nat)^k:=Nat.one_le_two_pow;have e:((2^k:Nat):Int)=(2:Int)^k:=by push_cast;rfl
  rw[← e];omega
 ·have:(2:Nat)^k≤2^30:=Nat.pow_le_pow_right (by decide) hk
  have e:((2^k:Nat):Int)=(2:Int)^k:=by push_cast;rfl
  rw[← e];omega
theorem Bx{t:Qc}(h:tyOK t=true)(hk:t.fk=2):2≤t.fm∧t.fm≤31:=by
 unfold tyOK at h;rw[if_neg (by omega)] at h
 have:=of_decide_eq_true h;exact⟨this.2.1,this.2.2.1⟩
theorem RW(t:Qc)(hk:t.fk=2):Kx t=some (if tyOK t=true then 0 else 10):=by
 unfold Kx tyOK;simp only[bS,bI,ND,CP,beq_iff_eq,bne_iff_ne,Bool.and_eq_true,decide_eq_true_eq,Bool.true_and,Bool.and_true,hk]
 grind
theorem gcd_L1(G:Int→Int→Option Int)(hG:∀a b,G a b=if(b !=(0:Int))=true then(if b≠(0:Int) then some (a.tmod b:Int)>>=fun v=>G b v else none) else some a):∀(b a:Nat),G a b=some (Nat.gcd a b:Int):=by
 intro b
 induction b using Nat.strongRecOn with
 |ind b ih=>
  intro a;rw[hG];by_cases hb:b=0;·subst hb;simp
  ·have h2:(b:Int)≠0:=by omega
   rw[if_pos (by simpa using h2),if_pos h2,bS]
   rw[show((a:Int).tmod (b:Int))=((a%b:Nat):Int) from rfl,ih (a%b) (Nat.mod_lt _ (by omega)) b,Nat.gcd_comm b,Nat.gcd_comm a b,Nat.gcd_rec b a]
theorem Q0c(v:gVal):Nj v=some (decide (-2147483647≤v.fN∧v.fN≤2147483647∧1≤v.fD∧v.fD≤2147483647∧Nat.gcd v.fN.natAbs v.fD.natAbs=1)):=by
 unfold Nj NS WQ Hb;by_cases h1:(1:Int)≤v.fD
 ·by_cases h2:v.fD≤2147483647
  ·rw[if_pos h1,if_pos h2];by_cases h3:(-2147483647:Int)≤v.fN
   ·by_cases h4:v.fN≤2147483647
    ·have e1:(if v.fN<0 then some (w6 (0 - w6 v.fN)) else some (w6 v.fN))=some ((v.fN.natAbs:Nat):Int):=by
      split;·unfold w6;rw[IntKind.wrap_u64,IntKind.wrap_u64];congr 1;omega
      ·unfold w6;rw[IntKind.wrap_u64];congr 1;omega
     have e2:w6 v.fD=((v.fD.natAbs:Nat):Int):=by unfold w6;rw[IntKind.wrap_u64];omega
     rw[if_pos h3,bS,e1,bS,e2];simp only[decide_eq_true h4,if_true,bS];rw[gcd_L1 Uo (fun a b=>by rw[Uo]),bS,bS]
     congr 1;rw[Bool.eq_iff_iff,beq_iff_eq,decide_eq_true_iff];constructor;·intro h;exact⟨h3,h4,h1,h2,by omega⟩
     ·intro h;omega
    ·rw[if_pos h3,bS];simp[h4]
   ·rw[if_neg h3,bS];simp[h3]
  ·rw[if_pos h1,if_neg h2];simp[h2]
 ·rw[if_neg h1];simp[h1]
theorem p_Valid(t:Qc)(v:gVal)(h:tyOK t=true):WK t v=some (vlOK t v):=by
 unfold WK vlOK;rw[M3,if_pos h,bS];simp only[bne_self_eq_false,Bool.false_eq_true,if_false,beq_iff_eq];by_cases h2:t.fk=2
 ·rw[if_pos h2,if_pos h2];obtain⟨b1,b2⟩:=Bx h h2;obtain⟨c1,c2,c3⟩:=pw2 _ ⟨b1,b2⟩;unfold MJ NU NT WI;rw[RW t h2,if_pos h];have w1:wr (t.fm - 1)=t.fm - 1:=ZB (by omega)
  have w2:w6 (t.fm - 1)=t.fm - 1:=by unfold w6;rw[IntKind.wrap_u64];omega
  simp only[bS,w1,w2,c3,Int.one_mul,beq_self_eq_true,if_true,decide_eq_true b2];rw[if_pos b1];generalize (2:Int)^ (t.fm - 1).toNat=P at*;simp only[bS,if_true];simp only[if_pos (show(0:Int)≤t.fm - 1 by omega),bS]
  rw[ZB (n:=P) (by omega),ZB (n:=0 - P) (by omega),ZB (n:=P - 1) (by omega)]
  simp only[beq_iff_eq]
  grind
 ·rw[if_neg h2,if_neg h2];by_cases h3:t.fk=3
  ·rw[if_pos h3];simp only[h3,if_true];unfold MN
   grind
  ·rw[if_neg h3,Q0c,bS];simp only[h3,if_false]
theorem r_Val(t:Qc)(v:gVal)(h:tyOK t=true):MW t v=some (vlOK t v):=by
 unfold MW vlOK Ha;simp only[beq_iff_eq];by_cases h2:t.fk=2
 ·rw[if_pos h2,if_pos h2];obtain⟨b1,b2⟩:=Bx h h2;obtain⟨c1,c2,c3⟩:=pw2 _ ⟨b1,b2⟩;have w1:wr (t.fm - 1)=t.fm - 1:=ZB (by omega)
  simp only[bS,w1,c3,Int.one_mul];generalize (2:Int)^ (t.fm - 1).toNat=P at*;rw[if_pos (by omega),ZB (n:=P) (by omega),ZB (by omega)]
  grind
 ·rw[if_neg h2,if_neg h2];simp only[bS];by_cases a1:(2147483647:Int)<v.fN;·rw[if_pos a1,bS,if_pos rfl];congr 1;symm;rw[decide_eq_false_iff_not];omega
  rw[if_neg a1];by_cases a2:v.fN< -2147483647;·rw[if_pos a2,bS,if_pos rfl];congr 1;symm;rw[decide_eq_false_iff_not];omega
  rw[if_neg a2];by_cases a3:v.fD<1;·rw[if_pos a3,bS,if_pos rfl];congr 1;symm;rw[decide_eq_false_iff_not];omega
  rw[if_neg a3];by_cases a4:(2147483647:Int)<v.fD;·rw[if_pos a4,bS,if_pos rfl];congr 1;symm;rw[decide_eq_false_iff_not];omega
  rw[if_neg a4,bS,if_neg (by simp)]
  by_cases h3:t.fk=3;·rw[if_pos h3];simp only[h3,if_true];congr 1;rw[Bool.eq_iff_iff,beq_iff_eq,decide_eq_true_iff];constructor<;>intro h<;>first | exact⟨by omega,by omega,by omega,by omega,h⟩ | exact h.2.2.2.2
  ·rw[if_neg h3];simp only[h3,if_false,if_true];have e1:max v.fN (wr (0 - v.fN))=((v.fN.natAbs:Nat):Int):=by rw[ZB (by omega)];omega
   have e2:v.fD=((v.fD.natAbs:Nat):Int):=by omega
   rw[e1]
   conv=>lhs;rw[e2]
   rw[gcd_L1 Un (fun a b=>by rw[Un]),bS,bS]
   congr 1;rw[Bool.eq_iff_iff,beq_iff_eq,decide_eq_true_iff];constructor;·intro h;exact⟨by omega,by omega,by omega,by omega,by omega⟩
   ·intro h;omega
end Go.Proofs.YtkgphhemcglgnaaGreatDoor
end
section
namespace Go.Proofs.YtkgphhemcglgnaaGreatDoor
open Go HY
theorem Le{α β:Type}{l:List α}{q:α→Bool}{L:Int→Option (Unit ⊕ β)}{e:β}(hl:l.length≤4611686018427387904)(h0:L l.length=some (.inl ()))
    (h1:∀(i:Int) (x:α),0≤i→i<l.length→x∈l→ix l i=some x→L i=if q x=true then L (wr (i+1)) else some (.inr e)):L 0=some (if l.all q then .inl () else .inr e):=by
  have key:∀(t p:List α),l=p++t→L p.length=some (if t.all q then .inl () else .inr e):=by
    intro t
    induction t with
    | nil => intro p e1; have : p.length = l.length := by rw [e1]; simp
             rw[this,h0];rfl
    |cons c t ih=>
      intro p e1;have a3:(p.length:Int)<l.length:=by rw[e1];simp;omega
      rw[h1 p.length c (by omega) a3 (by rw[e1];simp) (Yg e1),QM (by omega) a3 hl,List.all_cons]
      have:=ih (p++[c]) (by rw[e1];simp)
      rw[show((p++[c]).length:Int)=(p.length:Int)+1 by simp] at this
      rw[this];cases q c<;>simp
  exact key l [] rfl
theorem r_zero(l:gLin):(if(l.fK !=(0:Int))=true then some true else some (List.length l.fL:Int)>>=fun v=>if(0:Int)<v then some true else some false)=some (!(zLn l)):=by
 unfold zLn;cases l with
 |mk k t=>cases t<;>simp[bS]<;>grind
theorem Q38(x:Q1)(hl:x.fe.length≤4611686018427387904):Ys x 0=some (if x.fe.all wfI then .inl () else .inr false):=by
 refine Le (L:=Ys x) hl (by rw[Ys];simp[bS]) (fun i y h0 h1 hm a3=> ?_)
 rw[Ys,bS,if_pos h1,a3];simp only[bS,r_zero];have e:zLn y.fj=((y.fj.fK==0)&&decide (¬(0:Int)<y.fj.fL.length)):=by
  unfold zLn;cases y.fj.fL<;>simp
 unfold wfI;rw[e];have e2:y.fAt.isEmpty=decide (¬(0:Int)<y.fAt.length):=by cases y.fAt<;>simp
 rw[e2];by_cases hf:y.fu=[];·simp[hf,bI,bS];grind
 ·simp only[hf,bI,bS];cases hL:y.fj.fL<;>simp[hL]<;>grind
theorem r_plain(x:Q1)(hl:x.fe.length≤4611686018427387904):WA x=some (plE x):=by
 rw[plE_eq];unfold WA;rw[Q38 x hl];have e:zLn x.fj=((x.fj.fK==0)&&decide (¬(0:Int)<x.fj.fL.length)):=by
  unfold zLn;cases x.fj.fL<;>simp
 rw[e];simp only[bS,bI,ND,CP,if_true,if_false,Bool.false_eq_true];generalize (x.fx.fN==0&& (x.fx.fD==0&&true))=V;generalize (x.fd.fk==0&& (x.fd.fm==0&& (x.fd.fv==0&& (x.fd.fo==0&& (x.fd.fw==0&&true)))))=T;generalize (x.fa==[])=N;generalize x.fe.all wfI=A;generalize (x.fe.length:Int)=I;generalize x.fOp=op;generalize (x.fj.fL.length:Int)=J;generalize x.fj.fK=K;cases V<;>cases T<;>cases N<;>cases A<;>simp only[bS,if_true,if_false,Bool.false_eq_true,Bool.not_true,Bool.not_false]<;>grind
theorem Q36(x:Q1)(hl:x.fe.length≤4611686018427387904):Yq x 0=some (if x.fe.all (fun i=>i.fu==[] || nm i.fu) then .inl () else .inr false):=by
 refine Le (L:=Yq x) hl (by rw[Yq];simp[bS]) (fun i y h0 h1 hm a3=> ?_)
 rw[Yq,bS,if_pos h1,bS,a3,bS];by_cases hf:y.fu=[];·simp[hf,bS]
 ·simp only[hf,bS,Wu];cases nm y.fu<;>simp[hf,bS]
theorem r_named(x:Q1)(hl:x.fe.length≤4611686018427387904):Wz x=some (naE x):=by
 unfold Wz naE;rw[Q36 x hl,Wu];by_cases h3:x.fOp=3;·cases hn:nm x.fa<;>cases hA:x.fe.all (fun i=>i.fu==[] || nm i.fu)<;>simp[h3,hn,hA,bS]
 ·cases hA:x.fe.all (fun i=>i.fu==[] || nm i.fu)<;>simp[h3,hA,bS]
theorem Q0i(x:Q1)(hl:x.fe.length≤4611686018427387904):XV x 0=some (if x.fe.all (fun i=>decide (i.fAt.length≤6)) then .inl () else .inr false):=by
 refine Le (L:=XV x) hl (by rw[XV];simp[bS]) (fun i y h0 h1 hm a3=> ?_)
 rw[XV,bS,if_pos h1,a3,bS,bS];by_cases h6:(6:Int)<y.fAt.length;·rw[if_pos h6,decide_eq_false (by omega)];rfl
 ·rw[if_neg h6,decide_eq_true (by omega)];rfl
theorem Q5w(x:Q1)(hl:x.fe.length≤4611686018427387904):CI x=some (raE x):=by
 unfold CI raE;rw[Q0i x hl,r_args];simp only[bS];generalize hA:(x.fe.all (fun i=>decide (i.fAt.length≤6)))=A
 by_cases h1:(x.ff.length:Int)=Mg x.fOp
 ·by_cases h6:(6:Int)<x.fe.length
  ·have:¬x.fe.length≤6:=by omega
   simp[h1,h6,this,bS]
  ·have:x.fe.length≤6:=by omega
   cases A<;>simp[h1,h6,this,bS]
 ·simp[h1,bS]
theorem SN(x:Q1)(hl:x.ff.length≤4611686018427387904):∀(t p:List Qa),x.ff=p++t→YZ x x.ff x.ff.length p.length=some (if argG x.fOp p.length t then .inl () else .inr false)
 | [],p,e=>by
  have:p.length=x.ff.length:=by rw[e];simp
  rw[YZ,if_neg (by omega)];rfl
 |c::t,p,e=>by
  have ih:=SN x hl t (p++[c]) (by rw[e];simp)
  have a3:(p.length:Int)<x.ff.length:=by rw[e];simp;omega
  rw[YZ,if_pos a3,Yg e,omS,bS,WM,bS,Q30,bS,QM (by omega) a3 hl]
  rw[show((p++[c]).length:Int)=(p.length:Int)+1 by simp] at ih
  rw[ih,argG];cases isC c.f<;>cases Dp x.fOp p.length<;>simp
theorem p_types(x:Q1)(hl:x.ff.length≤4611686018427387904):Ni x=some (tyE x):=by
 unfold Ni tyE;have e:YZ x x.ff x.ff.length 0=_:=SN x hl x.ff [] rfl;rw[M3];simp only[bS,e,List.length_nil,Int.natCast_zero];cases ht:tyOK x.fd<;>cases hA:argG x.fOp 0 x.ff<;>by_cases h1:x.fOp=1<;>by_cases h2:x.fOp=12<;>simp[h1,h2,bS]
theorem SR(x:Q1)(hl:x.ff.length≤4611686018427387904):∀(t p:List Qa),x.ff=p++t→Yt x p.length=some (if argG x.fOp p.length t then .inl () else .inr false)
 | [],p,e=>by
  have:p.length=x.ff.length:=by rw[e];simp
  rw[Yt,bS,if_neg (by omega)];rfl
 |c::t,p,e=>by
  have ih:=SR x hl t (p++[c]) (by rw[e];simp)
  have a3:(p.length:Int)<x.ff.length:=by rw[e];simp;omega
  rw[Yt,bS,if_pos a3,Yg e,omS,bS,DN,bS,r_wants,bS,QM (by omega) a3 hl]
  rw[show((p++[c]).length:Int)=(p.length:Int)+1 by simp] at ih
  rw[ih,argG];cases isC c.f<;>cases Dp x.fOp p.length<;>simp
theorem r_typed(x:Q1)(hl:x.ff.length≤4611686018427387904):WB x=some (tyE x):=by
 unfold WB tyE;have e:Yt x 0=_:=SR x hl x.ff [] rfl;rw[r_Type];simp only[bS,e,List.length_nil,Int.natCast_zero];cases ht:tyOK x.fd<;>cases hA:argG x.fOp 0 x.ff<;>by_cases h1:x.fOp=1<;>by_cases h2:x.fOp=12<;>simp[h1,h2,bS]
theorem E5:∀(l:List gLin),(∀a∈l,okL a)→JP l=some (l.all JA)
 | [],_=>rfl
 |a::t,h=>by
  rw[JP,AT a (h a (by simp)),bS,E5 t (fun b hb=>h b (by simp[hb])),List.all_cons]
  cases JA a<;>simp
theorem Fh{x:Q1}(h1:okL x.fj)(h2:∀i∈x.fe,okI i):∀a∈UG x,okL a:=by
 intro a ha;unfold UG at ha;rcases List.mem_cons.1 ha with rfl | ha
 ·exact h1
 ·obtain⟨l,hl,a3⟩:=List.mem_flatten.1 ha;obtain⟨i,hi,rfl⟩:=List.mem_map.1 hl;unfold XB at a3;rcases List.mem_cons.1 a3 with rfl | a3
  ·exact(h2 i hi).1
  ·exact(h2 i hi).2.2 a a3
theorem Q0f(x:Q1)(hx:okE (.mk x)):Dt x=some (KP x):=by
 obtain⟨h1,h2,h3,h4,h5⟩:=hx.of;have hI:x.fe.length≤4611686018427387904:=by omega
 have hA:x.ff.length≤4611686018427387904:=by omega
 have a4:∀i∈x.fe,i.fAt.length≤4611686018427387904:=fun i hi=>by have:=(h3 i hi).2.1;omega
 have hT:JR x=some (if(UG x).all JA then 0 else 1):=by
  unfold JR;rw[Br x ⟨hI,a4⟩,bS,E5 _ (Fh h1 h3),bS]
 unfold Dt KP;rw[Q5p x hI,p_names x hI,p_rank x hI,p_types x hA,hT];simp only[bS];cases plE x<;>simp only[Bool.false_eq_true,if_true,if_false,Bool.true_eq_false]
 cases naE x<;>simp only[Bool.false_eq_true,if_true,if_false,Bool.true_eq_false]
 cases raE x<;>simp only[Bool.false_eq_true,if_true,if_false,Bool.true_eq_false]
 cases ht:tyE x<;>simp only[Bool.false_eq_true,if_true,if_false,Bool.true_eq_false]
 unfold foE;by_cases ho:x.fOp=1
 ·have a5:tyOK x.fd=true:=by
   unfold tyE at ht;rw[Bool.and_eq_true] at ht;simpa[ho] using ht.1
  rw[if_pos (by simpa using ho),p_Valid _ _ a5,bS,ho]
  cases vlOK x.fd x.fx<;>cases(UG x).all JA<;>simp
 ·rw[if_neg (by simpa using ho)]
  cases(UG x).all JA<;>simp[ho]
theorem Q0h(x:Q1)(k:Int)(i:Q7)(hk:ix x.fe k=some i)(hi:okI i):XU x k 0=some (if i.fAt.all JA then .inl () else .inr false):=by
 refine Le (L:=XU x k) (by have:=hi.2.1;omega) (by rw[XU,hk];simp[bS]) (fun j y h0 h1 hm a3=> ?_)
 rw[XU,hk,bS,bS,if_pos h1,bS,a3,bS,NH y (hi.2.2 y hm),bS]
theorem Q0g(x:Q1)(hl:x.fe.length≤4611686018427387904)(h:∀i∈x.fe,okI i):XT x 0=some (if x.fe.all (fun i=>(XB i).all JA) then .inl () else .inr false):=by
 refine Le (L:=XT x) hl (by rw[XT];simp[bS]) (fun i y h0 h1 hm a3=> ?_)
 rw[XT,bS,if_pos h1,a3,bS,NH y.fj (h y hm).1,bS];unfold XB;rw[List.all_cons];cases hb:JA y.fj with
 |false=>simp
 |true=>
  rw[if_pos rfl,bS,Q0h x i y a3 (h y hm)];cases y.fAt.all JA<;>simp[bS]
theorem Q3q(x:Q1):(UG x).all JA=(JA x.fj&&x.fe.all (fun i=>(XB i).all JA)):=by
 unfold UG;rw[List.all_cons];congr 1;generalize x.fe=l
 induction l with
 |nil=>rfl
 |cons a t ih=>simp only[List.map_cons,List.flatten_cons,List.all_append,List.all_cons];rw[ih]
theorem Q5t(x:Q1)(hx:okE (.mk x))(ht:tyE x=true):CH x=some (foE x):=by
 obtain⟨h1,h2,h3,h4,h5⟩:=hx.of;have hI:x.fe.length≤4611686018427387904:=by omega
 unfold CH foE;rw[Q0g x hI h3,NH x.fj h1,Q3q];by_cases ho:x.fOp=1
 ·have a4:tyOK x.fd=true:=by
   unfold tyE at ht;rw[Bool.and_eq_true] at ht;simpa[ho] using ht.1
  rw[r_Val _ _ a4];cases vlOK x.fd x.fx<;>cases JA x.fj<;>cases x.fe.all (fun i=>(XB i).all JA)<;>simp[ho,bS]
 ·cases JA x.fj<;>cases x.fe.all (fun i=>(XB i).all JA)<;>simp[ho,bS]
end Go.Proofs.YtkgphhemcglgnaaGreatDoor
end
section
namespace Go.Proofs.YtkgphhemcglgnaaGreatDoor
open Go HY
theorem Na(x:Q1):Qy (.mk x)= .mk x::YJ x.ff:=KK x
theorem EH(a:Nat)(l:List Nat):maxL (a::l)=max a (maxL l):=rfl
theorem Oj(x:Q1):dpE (.mk x)=1+maxL (x.ff.map dpE):=by rw[dpE];simp
theorem Lj:∀e:Qa,1≤dpE e:=fun e=>by cases e;rw[Oj];omega
theorem p_depth:∀e:Qa,okE e→∀m:Int,1≤m→m≤100→JN e.f m=some (min (dpE e:Int) m):=Qa.ind fun x ih hx m h1 h2=>by
 obtain⟨_,_,_,hA,a4⟩:=hx.of;rw[Qa.f_mk,JN];by_cases hm:m≤1;·rw[if_pos hm];have:=Lj (.mk x);congr 1;omega
 ·rw[if_neg hm,bS,bS];have hL:YY m 1 x.ff x.ff.length 0=some (max 1 (min (1+maxL (x.ff.map dpE):Int) m)):=by
   refine Xh (F:=fun d i=>YY m d x.ff x.ff.length i) (l:=x.ff) (fun d _=>1≤d∧d≤m) (fun d t=>max d (min (1+maxL (t.map dpE):Int) m)) ?_ ?_ 1 (by omega)
   ·intro d hd;rw[YY,if_neg (by omega)]
    simp[maxL];omega
   ·intro i y t d h3 h4 a3 a5 hd a6;rw[YY,if_pos h4,a5,omS,bS,ZB (n:=m - 1) (by omega),ih y a3 (a4 y a3) (m - 1) (by omega) (by omega),bS,if_pos rfl,QM h3 h4 (by omega),ZB (by have:=Lj y;omega)]
    have hp:=Lj y;rw[a6 _ (by omega),List.map_cons,EH]
    congr 1;omega
  rw[hL,bS,Oj];congr 1;omega
theorem r_depth:∀e:Qa,okE e→∀m:Int,1≤m→m≤100→VO e.f m=some (min (dpE e:Int) m):=Qa.ind fun x ih hx m h1 h2=>by
 obtain⟨_,_,_,hA,a4⟩:=hx.of;rw[Qa.f_mk,VO,bS];by_cases hm:m≤1
 ·rw[XC,bS,bS];have:(if(0:Int)< (x.ff.length:Int) then(if(1:Int)<m then some true else some false) else some false)=some false:=by
   rw[if_neg (show ¬(1:Int)<m by omega)];split<;>rfl
  rw[this];have:=Lj (.mk x);simp only[bS,if_false,Bool.false_eq_true];congr 1;omega
 ·have hL:XC m x 1 0=some (max 1 (min (1+maxL (x.ff.map dpE):Int) m)):=by
   refine Xh (F:=fun d i=>XC m x d i) (l:=x.ff) (fun d _=>1≤d∧d≤m) (fun d t=>max d (min (1+maxL (t.map dpE):Int) m)) ?_ ?_ 1 (by omega)
   ·intro d hd;rw[XC,bS,bS,if_neg (by omega)]
    simp[maxL,bS];omega
   ·intro i y t d h3 h4 a3 a5 hd a6;rw[XC,bS,bS,if_pos h4,if_pos (show(1:Int)<m by omega),bS,if_pos rfl]
    simp only;rw[a5,omS,bS,ZB (n:=m - 1) (by omega),ih y a3 (a4 y a3) (m - 1) (by omega) (by omega),bS,if_pos trivial,QM h3 h4 (by omega),ZB (by have:=Lj y;omega)]
    have hp:=Lj y;rw[a6 _ (by omega),List.map_cons,EH]
    congr 1;omega
  rw[hL,bS,Oj];congr 1;omega
theorem OY:∀(l:List Qa) (c:Int),0≤c→c≤2000→Gm l c=some (min (c+l.length) 2001)
 | [],c,h0,h1=>by rw[Gm];congr 1;simp;omega
 |a::t,c,h0,h1=>by
  rw[Gm,bS,ZB (by omega)]
  by_cases h:2000<c+1;·rw[if_pos h];congr 1;simp;omega
  ·rw[if_neg h,OY t (c+1) (by omega) (by omega)];congr 1;simp;omega
theorem Sp:∀e:Qa,okE e→aE e:=Qa.ind fun x ih hx=>by
 obtain⟨_,_,_,hA,a3⟩:=hx.of;exact .mk x (by omega) (fun a ha=>ih a ha (a3 a ha))
theorem p_Size(x:Q1)(hx:okE (.mk x)):M9 x=some (min ((Qy (.mk x)).length:Int) 2001):=by
 unfold M9;rw[Iz x (Sp _ hx),bS,OY _ 0 (by omega) (by omega),bS];congr 1;show min (0+((Qy (.mk x)).length:Int)) 2001=_;omega
theorem Q41(x:Q1):1≤(Qy (.mk x)).length:=by rw[KK];simp
theorem r_size:∀e:Qa,okE e→∀m:Int,0≤m→m≤100000→JV e.f m=some (min ((Qy e).length:Int) (m+1)):=Qa.ind fun x ih hx m h1 h2=>by
 obtain⟨_,_,_,hA,a4⟩:=hx.of;rw[Qa.f_mk,JV];simp only[bS];have hL:K0 m x 1 0=some (min (1+(YJ x.ff).length:Int) (m+1)):=by
  refine Xh (F:=fun d i=>K0 m x d i) (l:=x.ff) (fun d _=>1≤d∧d≤m+1) (fun d t=>min (d+(YJ t).length:Int) (m+1)) ?_ ?_ 1 (by omega)
  ·intro d hd;rw[K0,bS,bS,if_neg (by omega)]
   simp[YJ,bS];omega
  ·intro i y t d h3 h4 a3 a5 hd a6;rw[K0,bS,bS,if_pos h4];by_cases hc:d≤m
   ·rw[if_pos hc,bS,if_pos rfl];simp only;have hp:1≤(Qy y).length:=by cases y;exact Q41 _
    rw[a5,omS,bS,ZB (n:=m - d) (by omega),ih y a3 (a4 y a3) (m - d) (by omega) (by omega),bS,bS,QM h3 h4 (by omega),ZB (by omega)]
    rw[a6 _ (by omega),Wr,List.length_append]
    congr 1;omega
   ·rw[if_neg hc];simp only[bS,if_false,Bool.false_eq_true];congr 1;omega
 rw[hL,bS,Na,List.length_cons];congr 1;omega
theorem r_Size(x:Q1)(hx:okE (.mk x)):Nk x=some (min ((Qy (.mk x)).length:Int) 2001):=by
 unfold Nk;have:=r_size (.mk x) hx 2000 (by omega) (by omega)
 rw[Qa.f_mk] at this;rw[this,bS];simp only[Bool.false_eq_true,if_false];congr 1;omega
theorem Ov{α:Type}(f:α→Int)(b:List α):∀a:List α,fstE f (a++b)=if fstE f a≠0 then fstE f a else fstE f b
 | []=>by simp[fstE]
 |x::t=>by
  rw[List.cons_append,fstE,fstE,Ov f b t];by_cases h:f x≠0;·simp[h]
  ·rw[if_neg h,if_neg h]
theorem EK:∀e:Qa,okE e→∀y∈Qy e,okE y:=Qa.ind fun x ih hx y hy=>by
 obtain⟨_,_,_,hA,a3⟩:=hx.of;rw[Na] at hy;rcases List.mem_cons.1 hy with rfl | hy
 ·exact hx
 ·unfold YJ at hy;obtain⟨l,hl,a5⟩:=List.mem_flatten.1 hy;obtain⟨a,ha,rfl⟩:=List.mem_map.1 hl;exact ih a ha (a3 a ha) y a5
theorem EN:∀(l:List Qa),(∀a∈l,okE a)→Ur l=some (fstE (fun y=>KP y.f) l)
 | [],_=>rfl
 |a::t,h=>by
  have ha:okE (.mk a.f):=by rw[Qa.mk_f];exact h a (by simp)
  rw[Ur,Q0f a.f ha,bS,EN t (fun b hb=>h b (by simp[hb])),fstE]
  by_cases hp:KP a.f=0;·simp[hp]
  ·simp[hp]
theorem Q2x(x:Q1)(hx:okE (.mk x)):DY x=some (C8 x):=by
 unfold DY C8 Ls;have hd:=p_depth (.mk x) hx 41 (by omega) (by omega)
 rw[Qa.f_mk] at hd;rw[hd,bS,bS,p_Size x hx,Iz x (Sp _ hx)];by_cases h1:40<dpE (.mk x);·rw[if_pos h1,if_pos (by omega)]
 ·rw[if_neg h1,if_neg (by omega),bS]
  by_cases h2:2000< (Qy (.mk x)).length;·rw[if_pos h2,if_pos (by omega)]
  ·rw[if_neg h2,if_neg (by omega),bS,EN _ (EK _ hx),bS]
theorem r_part:∀e:Qa,okE e→JU e.f=some (fstE (fun y=>KP y.f) (Qy e)):=Qa.ind fun x ih hx=>by
 obtain⟨h1,h2,h3,hA,a9⟩:=hx.of;have hI:x.fe.length≤4611686018427387904:=by omega
 have hL:Yr x 0=some (if fstE (fun y=>KP y.f) (YJ x.ff)≠0 then .inr (fstE (fun y=>KP y.f) (YJ x.ff)) else .inl ()):=by
  refine Xh (α:=Unit) (F:=fun _ i=>Yr x i) (l:=x.ff) (fun _ _=>True) (fun _ t=>if fstE (fun y=>KP y.f) (YJ t)≠0 then .inr (fstE (fun y=>KP y.f) (YJ t)) else .inl ()) ?_ ?_ () trivial
  ·intro _ _;rw[Yr,bS,if_neg (by omega)]
   simp[YJ,fstE]
  ·intro i y t _ h3 h4 a6 ac _ ad;rw[Yr,bS,if_pos h4,ac,omS,bS,ih y a6 (a9 y a6),bS,QM h3 h4 (by omega),ad () trivial,Wr,Ov]
   by_cases hz:fstE (fun y=>KP y.f) (Qy y)=0
   ·simp[hz]
   ·simp[hz]
 rw[Qa.f_mk,JU,r_plain x hI,r_named x hI,Q5w x hI,r_typed x (by omega),hL,Na]
 rw[fstE];generalize fstE (fun y=>KP y.f) (YJ x.ff)=z
 simp only[bS,Qa.f_mk];unfold KP;rcases Bool.eq_false_or_eq_true (plE x) with a1 | a1
 rotate_left
 ·simp[a1]
 rcases Bool.eq_false_or_eq_true (naE x) with a2 | a2
 rotate_left
 ·simp[a1,a2]
 rcases Bool.eq_false_or_eq_true (raE x) with a3 | a3
 rotate_left
 ·simp[a1,a2,a3]
 rcases Bool.eq_false_or_eq_true (tyE x) with a4 | a4
 rotate_left
 ·simp[a1,a2,a3,a4]
 rw[Q5t x hx a4,bS];rcases Bool.eq_false_or_eq_true (foE x) with a5 | a5
 rotate_left
 ·simp[a1,a2,a3,a4,a5]
 by_cases hz:z=0;·simp[a1,a2,a3,a4,a5,hz,bS]
 ·simp[a1,a2,a3,a4,a5,hz,bS]
theorem Q34(x:Q1)(hx:okE (.mk x)):Dx x=some (C8 x):=by
 unfold Dx C8 ML;have hd:=r_depth (.mk x) hx 41 (by omega) (by omega)
 have hp:=r_part (.mk x) hx;rw[Qa.f_mk] at hd hp;rw[hd,bS,bS,r_Size x hx];by_cases h1:40<dpE (.mk x);·rw[if_pos h1,if_pos (by omega)]
 ·rw[if_neg h1,if_neg (by omega),bS]
  by_cases h2:2000< (Qy (.mk x)).length;·rw[if_pos h2,if_pos (by omega)]
  ·rw[if_neg h2,if_neg (by omega),hp,bS]
end Go.Proofs.YtkgphhemcglgnaaGreatDoor
end
section
namespace Go.Proofs.YtkgphhemcglgnaaGreatDoor
open Go HY
def cmpZ(a b:Int):Int:=if a<b then -1 else if b<a then 1 else 0
theorem Sy(a b:Int):cmpZ a b=0↔a=b:=by unfold cmpZ;grind
theorem Ii(a b:Int):ZJ a b=some (cmpZ a b):=by unfold ZJ DX cmpZ;simp only[bS];grind
theorem Q1g(a b:Int):J0 a b=some (cmpZ a b):=by unfold J0 D0 cmpZ;simp only[bS];grind
theorem p_order(a b:Int):Wf a b=some (cmpZ a b):=by unfold Wf cmpZ;grind
theorem p_Or(l:List Int)(hl:l.length≤100):∃r,Cf l=some r∧(r=0↔∀x∈l,x=0):=by
  have key:∀(t p:List Int),l=p++t→∃r,YX 0 l l.length p.length=some r∧(match r with | .inl _=>∀x∈t,x=0 | .inr k=>k≠0∧¬ ∀x∈t,x=0):=by
    intro t
    induction t with
    | nil => intro p e; have : p.length = l.length := by rw [e]; simp
             exact⟨_,by rw[YX,if_neg (by omega)],by simp⟩
    |cons c t ih=>
      intro p e;have a3:(p.length:Int)<l.length:=by rw[e];simp;omega
      rw[YX,if_pos a3,Yg e,bS,QM (by omega) a3 (by omega)]
      by_cases hc:c=0
      · rw[if_neg (by simp[hc])]
        have:=ih (p++[c]) (by rw[e];simp)
        rw[show((p++[c]).length:Int)=(p.length:Int)+1 by simp] at this
        obtain⟨r,e1,e2⟩:=this;refine⟨r,e1,?_⟩;cases r with
        |inl u=>simpa[hc] using e2
        |inr k=>exact⟨e2.1,fun h=>e2.2 (fun x hx=>h x (by simp[hx]))⟩
      · exact⟨_,if_pos (by simp[hc]),hc,fun h=>hc (h c (by simp))⟩
  obtain⟨r,e1,e2⟩:=key l [] rfl;have a4:YX 0 l l.length 0=some r:=e1;unfold Cf;simp only[bS];rw[a4];cases r with
  |inl u=>exact⟨0,rfl,by simpa using e2⟩
  |inr k=>exact⟨k,rfl,⟨fun h=>absurd h e2.1,fun h=>absurd h e2.2⟩⟩
theorem Q5o(s:Str):∃r,VM s []=some r∧(r=0↔s=[]):=by
 unfold VM Vb XO;cases s with
 |nil=>exact⟨0,rfl,by simp⟩
 |cons a t=>exact⟨1,rfl,by simp⟩
theorem Q5n(l:gLin):∃r,Gn l ⟨0,[]⟩=some r∧(r=0↔zLn l=true):=by
 unfold Gn KI zLn;cases l with
 |mk k t=>
  cases t with
  |nil=>
   simp only[bS];rw[QQ,if_neg (by simp)]
   simp only[bS,p_order];exact⟨cmpZ k 0,by simp,by simp[Sy]⟩
  |cons a t=>
   simp only[bS];rw[QQ,if_pos (by simp<;>omega)]
   refine⟨1,?_,by simp⟩
   rw[show ix (a::t) 0=some a from rfl];simp[bS]
theorem Q5k(l:List Q7):∃r,XR l []=some r∧(r=0↔l.length=0):=by
 unfold XR;simp only[bS,Ii];by_cases h:l.length=0
 ·have:l=[]:=List.eq_nil_of_length_eq_zero h;subst this;refine⟨0,?_,by simp⟩
  unfold KA;simp only[bS];rw[if_neg (by simp;rfl),Zb,if_neg (by simp)]
  simp[bS]
 ·have:cmpZ l.length (([]:List Q7).length:Nat)≠0:=by rw[Ne,Sy];simpa using h
  exact⟨_,if_pos (by simpa using this),⟨fun e=>absurd e this,fun e=>absurd e h⟩⟩
theorem Q5j(l:List Qa):∃r,X6 l []=some r∧(r=0↔l.length=0):=by
 rw[X6];simp only[bS,Ii];by_cases h:l.length=0
 ·have:l=[]:=List.eq_nil_of_length_eq_zero h;subst this;refine⟨0,?_,by simp⟩
  rw[XX];simp only[bS];rw[if_neg (by simp;rfl),Zj,if_neg (by simp)]
  simp[bS]
 ·have:cmpZ l.length (([]:List Qa).length:Nat)≠0:=by rw[Ne,Sy];simpa using h
  exact⟨_,if_pos (by simpa using this),⟨fun e=>absurd e this,fun e=>absurd e h⟩⟩
theorem Ox(x:Q1):isZE x=true↔(x.fOp=0∧x.fa=[]∧x.fx.fN=0∧x.fx.fD=0∧(x.fd.fk=0∧x.fd.fm=0∧x.fd.fv=0∧x.fd.fo=0∧x.fd.fw=0)∧zLn x.fj=true∧x.fe.length=0∧x.ff.length=0):=by
 unfold isZE;have e1:x.fd=zT↔(x.fd.fk=0∧x.fd.fm=0∧x.fd.fv=0∧x.fd.fo=0∧x.fd.fw=0):=by
  cases x.fd;simp[zT]
 rw[decide_eq_true_iff,e1]
theorem Q44(x:Q1):D6 x=some (isZE x):=by
 unfold D6 Iq;rw[bS,Je,Ii,Q1g,Q1g];unfold Cg;rw[Ii,Ii,Ii,Ii,Ii];simp only[bS];obtain⟨s,es,hs⟩:=Q5o x.fa;obtain⟨t,et,ht⟩:=p_Or [cmpZ x.fd.fk 0,cmpZ x.fd.fm 0,cmpZ x.fd.fv 0,cmpZ x.fd.fo 0,cmpZ x.fd.fw 0] (by simp)
 obtain⟨u,eu,hu⟩:=Q5n x.fj;rw[es,et,eu];simp only[bS];obtain⟨v,ev,hv⟩:=p_Or [cmpZ x.fOp 0,s,cmpZ x.fx.fN 0,cmpZ x.fx.fD 0,t,u] (by simp)
 obtain⟨i,ei,hi⟩:=Q5k x.fe;obtain⟨a,ea,ha⟩:=Q5j x.ff;rw[ev,bS,ei,ea];simp only[bS,List.mem_cons,List.not_mem_nil,or_false,forall_eq_or_imp,forall_eq,Sy] at ht hv ⊢;have hz:=Ox x;rw[← hu,← ht,← hs,← hi,← ha] at hz;by_cases h1:v=0
 ·rw[if_neg (by simp[h1])]
  by_cases h2:i=0
  ·rw[if_neg (by simp[h2]),bS,bS]
   congr 1;rw[Bool.eq_iff_iff,hz,beq_iff_eq];have:=hv.1 h1;constructor;·intro h;exact⟨this.1,this.2.1,this.2.2.1,this.2.2.2.1,this.2.2.2.2.1,this.2.2.2.2.2,h2,h⟩
   ·intro h;exact h.2.2.2.2.2.2.2
  ·rw[if_pos (by simp[h2]),bS,bS]
   congr 1;rw[Bool.eq_iff_iff,hz,beq_iff_eq];exact⟨fun h=>absurd h h2,fun h=>h.2.2.2.2.2.2.1⟩
 ·rw[if_pos (by simp[h1]),bS,bS]
  congr 1;rw[Bool.eq_iff_iff,hz,beq_iff_eq];exact⟨fun h=>absurd h h1,fun h=>absurd (hv.2 ⟨h.1,h.2.1,h.2.2.1,h.2.2.2.1,h.2.2.2.2.1,h.2.2.2.2.2.1⟩) h1⟩
theorem Q5u(x:Q1):Kl x (QS.mk (0:Int) [] (gVal.mk (0:Int) (0:Int)) (Qc.mk (0:Int) (0:Int) (0:Int) (0:Int) (0:Int)) (gLin.mk (0:Int) []) [] [])=some (isZE x):=by
 have hz:=Ox x;have hl:∀l:gLin,Gy l ⟨0,[]⟩=some (zLn l):=fun l=>by
  unfold Gy zLn;cases l with
  |mk k t=>
   cases t with
   |nil=>
    by_cases hk:k=0
    ·subst hk;simp only[bS];rw[Km];simp[bS]
    ·simp[hk,bS]
   |cons a t=>
    have h1:¬((t.length:Int)+1=0):=by omega
    by_cases hk:k=0<;>simp[hk,bS,h1]
 have hi:∀l:List Q7,Jd l []=some (decide (l.length=0)):=fun l=>by
  unfold Jd;cases l with
  |nil=>simp only[bS];rw[ZI];simp[bS]
  |cons a t=>
   have h1:¬((t.length:Int)+1=0):=by omega
   simp[bS,h1]
 have ha:∀l:List Qa,G3 l []=some (decide (l.length=0)):=fun l=>by
  rw[G3];cases l with
  |nil=>simp only[bS];rw[Xa];simp[bS]
  |cons a t=>
   have h1:¬((t.length:Int)+1=0):=by omega
   simp[bS,h1]
 rw[Kl,hl,hi,ha];simp only[bS];generalize zLn x.fj=Z at*;generalize isZE x=Q at*;simp only[beq_iff_eq,Bool.and_eq_true,Bool.and_true]
 grind
theorem Q1h(x:Qg):plS x=true↔((x.fOp=1∨x.fOp=2∨x.fOp=3∨x.fOp=4)∧(x.fOp=4→x.fa=[])∧(x.fOp≠1→x.fy=0∧x.fB=0)∧(x.fOp≠3→x.fA=0)∧(¬(x.fOp=2∨x.fOp=3)→x.fe.length=0)∧(x.fOp=1→isZE x.fg=true)∧(x.fOp=2∨x.fOp=3→x.fb.length=0)):=by
 unfold plS;rw[decide_eq_true_iff]
theorem p_plain(x:Qg):D7 x=some (plS x):=by
 have hq:=Q1h x;unfold D7;rw[Q44];generalize plS x=Q at*;generalize isZE x.fg=Z at*;generalize x.fe.length=I at*;generalize x.fb.length=J at*;have hJ:((J:Int)=0)↔J=0:=by omega
 simp only[bS,bI,ND,CP,if_true,if_false,Bool.false_eq_true,beq_iff_eq,bne_iff_ne,Bool.not_eq_true',beq_eq_false_iff_ne];by_cases h1:x.fOp=1;·simp[h1,hJ] at hq ⊢;grind
 by_cases h2:x.fOp=2;·simp[h2,hJ] at hq ⊢;grind
 by_cases h3:x.fOp=3;·simp[h3,hJ] at hq ⊢;grind
 by_cases h4:x.fOp=4;·simp[h4,hJ] at hq ⊢;grind
 simp[h1,h2,h3,h4] at hq ⊢;grind
theorem Q5v(x:Qg):WD x=some (plS x):=by
 have hq:=Q1h x;unfold WD;simp only[bS,Q5u];generalize plS x=Q at*;generalize isZE x.fg=Z at*;generalize x.fe.length=I at*;generalize x.fb.length=J at*;have hJ:((J:Int)=0)↔J=0:=by omega
 simp only[bS,bI,ND,CP,if_true,if_false,Bool.false_eq_true,beq_iff_eq,bne_iff_ne,Bool.not_eq_true',beq_eq_false_iff_ne];by_cases h1:x.fOp=1;·simp[h1,hJ] at hq ⊢;grind
 by_cases h2:x.fOp=2;·simp[h2,hJ] at hq ⊢;grind
 by_cases h3:x.fOp=3;·simp[h3,hJ] at hq ⊢;grind
 by_cases h4:x.fOp=4;·simp[h4,hJ] at hq ⊢;grind
 simp[h1,h2,h3,h4] at hq ⊢;grind
end Go.Proofs.YtkgphhemcglgnaaGreatDoor
end
section
namespace Go.Proofs.YtkgphhemcglgnaaGreatDoor
open Go HY
def okBf(b:Qb):Prop:=b.fC.length*8≤140737488351232
def okBs(l:List Qb):Prop:=l.length≤140737488351232∧∀b∈l,okBf b
theorem EO(b:Qb)(h:okBf b):Vi b=some b:=by
 unfold Vi GC;unfold okBf at h;rw[if_pos (by omega)];rfl
theorem Su(b:Qb)(l:List Qb)(s:Str):ZK (b::l) s=if(b.fa==s)=true then some b else ZK l s:=by
 unfold ZK;rw[List.find?_cons];cases b.fa==s<;>rfl
theorem LM(n:Q9)(s:Str)(h:okBs n.fc):YP n s=some ((ZK n.fc s).getD zBuf,(ZK n.fc s).isSome):=by
 obtain⟨hl,hb⟩:=h;have hL:ZZ s n zBuf n.fc.length 0=some (match ZK n.fc s with | some b=>.inr (b,true) | none=>.inl zBuf):=by
  refine Xh (α:=Unit) (F:=fun _ i=>ZZ s n zBuf n.fc.length i) (l:=n.fc) (fun _ _=>True) (fun _ t=>match ZK t s with | some b=>.inr (b,true) | none=>.inl zBuf) ?_ ?_ () trivial
  ·intro _ _;rw[ZZ,if_neg (by omega)];rfl
  ·intro i y t _ h0 h1 hm a3 _ ih;rw[ZZ,if_pos h1,a3,bS,bS,EO y (hb y hm),bS,QM h0 h1 (by omega),ih () trivial,Su]
   cases y.fa==s<;>rfl
 unfold YP;simp only[bS];rw[show(Qb.mk [] (Qc.mk (0:Int) (0:Int) (0:Int) (0:Int) (0:Int)) [] (0:Int))=zBuf from rfl,hL];cases ZK n.fc s<;>rfl
theorem LP(n:Q9)(s:Str)(h:okBs n.fc):Vj n s=some ((ZK n.fc s).getD zBuf,(ZK n.fc s).isSome):=by
 obtain⟨hl,hb⟩:=h;have hL:XW s n zBuf 0=some (match ZK n.fc s with | some b=>.inr (b,true) | none=>.inl zBuf):=by
  refine Xh (α:=Unit) (F:=fun _ i=>XW s n zBuf i) (l:=n.fc) (fun _ _=>True) (fun _ t=>match ZK t s with | some b=>.inr (b,true) | none=>.inl zBuf) ?_ ?_ () trivial
  ·intro _ _;rw[XW,bS,if_neg (by omega)];rfl
  ·intro i y t _ h0 h1 hm a3 _ ih;rw[XW,bS,if_pos h1,a3,bS,bS,QM h0 h1 (by omega),ih () trivial,Su]
   cases y.fa==s<;>rfl
 unfold Vj;simp only[bS];rw[show(Qb.mk [] (Qc.mk (0:Int) (0:Int) (0:Int) (0:Int) (0:Int)) [] (0:Int))=zBuf from rfl,hL];cases ZK n.fc s<;>rfl
theorem p_cfB(l:List Qb)(b:Qb)(hl:l.length≤4611686018427387904):Xj l b=some (l.any fun x=>x.fa==b.fa):=by
 obtain⟨r,e,h⟩:=idxF (l:=l) (q:=fun x=>x.fa==b.fa) (L:=QR l b l.length) hl (fun i=>by rw[QR]) (fun x _=>by unfold UC;rfl)
 unfold Xj KJ;simp only[bS];rw[e];cases r with
 |inl a=>simp only[bS];rw[h];rfl
 |inr k=>simp only[bS];rw[h.2];simp[h.1]
theorem p_bufs(l:List Qb)(hl:l.length≤140737488351232):VT l=some (XK [] l):=by
 have key:∀(t p:List Qb),l=p++t→Ze l l.length p.length=some (if XK p t≠0 then .inr (XK p t) else .inl ()):=by
  intro t
  induction t with
  |nil=>
   intro p e;have:p.length=l.length:=by rw[e];simp
   rw[Ze,if_neg (by omega)];simp[XK]
  |cons b t ih=>
   intro p e;have a7:(p.length:Int)<l.length:=by rw[e];simp;omega
   have ih:=ih (p++[b]) (by rw[e];simp)
   rw[show((p++[b]).length:Int)=(p.length:Int)+1 by simp] at ih
   have aa:List.drop 0 (List.take ((p.length:Int)).toNat l)=p:=by rw[Int.toNat_natCast,e];simp
   have a8:(0:Int)≤0∧(0:Int)≤(p.length:Int)∧(p.length:Int)≤((List.map Q4 l).length:Int):=⟨by omega,by omega,by rw[List.length_map];omega⟩
   rw[Ze,if_pos a7,Yg e,bS,HJ,bS,if_pos a8,aa,bS,p_cfB p b (by omega),bS,M3,bS,p_shape,bS,bS,QM (by omega) a7 (by omega),ih]
   rw[XK];rcases Bool.eq_false_or_eq_true (nm b.fa) with a1 | a1
   rotate_left
   ·simp[a1]
   rcases Bool.eq_false_or_eq_true (p.any fun x=>x.fa==b.fa) with a2 | a2
   ·simp[a1,a2]
   rcases Bool.eq_false_or_eq_true (tyOK b.fd) with a3 | a3
   rotate_left
   ·simp[a1,a2,a3]
   by_cases a4:Ld b.fC=0
   rotate_left
   ·simp[a1,a2,a3,a4]
   by_cases a5:b.fF<1;·simp[a1,a2,a3,a4,a5,bS]
   by_cases a6:3<b.fF;·simp[a1,a2,a3,a4,a5,a6,bS]
   ·simp[a1,a2,a3,a4,a5,a6,bS]
 have h0:Ze l l.length 0=_:=key l [] rfl;unfold VT;simp only[bS];rw[h0];by_cases hz:XK [] l=0<;>simp[hz,bS]
theorem Q49(n:Q9)(b:Qb)(p t:List Qb)(e:n.fc=p++t)(hl:n.fc.length≤140737488351232):K3 n p.length b 0=some (if(p.all fun x=> !(x.fa==b.fa)) then .inl () else .inr 8):=by
 refine Le (l:=p) (q:=fun x=> !(x.fa==b.fa)) (L:=K3 n p.length b) (by rw[e] at hl;simp at hl;omega) (by rw[K3,if_neg (by omega)]) (fun i y h0 h1 hm a3=> ?_)
 have a4:ix n.fc i=some y:=by
  unfold ix at a3 ⊢;rw[if_pos h0] at a3 ⊢;rw[e,List.getElem?_append_left (List.getElem?_eq_some_iff.1 a3).1];exact a3
 rw[K3,if_pos h1,a4,bS];cases y.fa==b.fa<;>simp
theorem all_not{α:Type}(q:α→Bool)(l:List α):(l.all fun x=> !(q x))= !(l.any q):=by
 induction l with
 |nil=>rfl
 |cons a t ih=>rw[List.all_cons,List.any_cons,ih];cases q a<;>simp
theorem r_bufs(n:Q9)(hl:n.fc.length≤140737488351232):Nm n=some (XK [] n.fc):=by
 have key:∀(t p:List Qb),n.fc=p++t→K2 n p.length=some (if XK p t≠0 then .inr (XK p t) else .inl ()):=by
  intro t
  induction t with
  |nil=>
   intro p e;have:p.length=n.fc.length:=by rw[e];simp
   rw[K2,bS,if_neg (by omega)];simp[XK]
  |cons b t ih=>
   intro p e;have a7:(p.length:Int)<n.fc.length:=by rw[e];simp;omega
   have ih:=ih (p++[b]) (by rw[e];simp)
   rw[show((p++[b]).length:Int)=(p.length:Int)+1 by simp] at ih
   rw[K2,bS,if_pos a7,Yg e,bS,Wu,bS,bS,Q49 n b p _ e hl,all_not];rw[XK];rcases Bool.eq_false_or_eq_true (nm b.fa) with a1 | a1
   rotate_left
   ·simp[a1]
   rcases Bool.eq_false_or_eq_true (p.any fun x=>x.fa==b.fa) with a2 | a2
   ·simp[a1,a2,bS]
   simp only[a1,a2,Bool.not_false,if_true,bS,r_Type,r_shape,QM (show(0:Int)≤p.length by omega) a7 (by omega),ih]
   rcases Bool.eq_false_or_eq_true (tyOK b.fd) with a3 | a3
   rotate_left
   ·simp[a3]
   by_cases a4:Ld b.fC=0
   rotate_left
   ·simp[a3,a4]
   by_cases a5:b.fF<1;·simp[a3,a4,a5,bS]
   by_cases a6:3<b.fF;·simp[a3,a4,a5,a6,bS]
   ·simp[a3,a4,a5,a6,bS]
 have h0:K2 n 0=_:=key n.fc [] rfl;unfold Nm;simp only[bS];rw[h0];by_cases hz:XK [] n.fc=0<;>simp[hz,bS]
theorem dp_f(s:Q0):dp s=1+dpL s.f.fb:=by
 cases s with
 |mk x=>rw[dp];simp[dpL,Q0.f]
theorem okS.f{s:Q0}(h:okS s):okSs s.f.fb:=by
 cases s with
 |mk x=>exact h.of.2.2.2
theorem Cr{P:List Q0→Prop}(h:∀l,okSs l→(∀s∈l,P s.f.fb)→P l):∀l,okSs l→P l:=by
 have key:∀s:Q0,okS s→P s.f.fb:=Q0.ind fun x ih hx=>by
  have hb:=hx.of.2.2.2;exact h _ hb fun s hs=>ih s hs (hb.2 s hs)
 exact fun l hl=>h l hl fun s hs=>key s (hl.2 s hs)
theorem Q5r:∀l,okSs l→∀m:Int,0≤m→m≤1000→YQ l m=some (decide ((dpL l:Int)≤m)):=Cr fun l hl ih m h0 h1=>by
 have a3:l.length≤4611686018427387904:=by have:=hl.1;omega
 have hL:X0 l m l.length 0=some (if l.all (fun s=>decide ((dp s:Int)≤m)) then .inl () else .inr false):=by
  refine Le (L:=X0 l m l.length) a3 (by rw[X0,if_neg (by omega)]) (fun i y h2 h3 hm a5=> ?_)
  rw[X0,if_pos h3,bS,a5,omS,bS];by_cases hc:m<1;·rw[if_pos hc,bS,if_pos rfl,if_neg (by simp[dp_f];omega)]
  ·rw[if_neg hc,ZB (n:=m - 1) (by omega),ih y hm (m - 1) (by omega) (by omega),bS]
   by_cases hd:(dpL y.f.fb:Int)≤m - 1
   ·have:(dp y:Int)≤m:=by rw[dp_f];omega
    simp[hd,this,bS]
   ·have:¬(dp y:Int)≤m:=by rw[dp_f];omega
    simp[hd,this,bS]
 have a4:l.all (fun s=>decide ((dp s:Int)≤m))=decide ((dpL l:Int)≤m):=by
  unfold dpL;clear hL ih hl a3
  induction l with
  |nil=>simp[maxL,h0]
  |cons a t ih=>
   rw[List.all_cons,ih,List.map_cons,EH,Bool.eq_iff_iff,Bool.and_eq_true,decide_eq_true_iff,decide_eq_true_iff,decide_eq_true_iff];omega
 rw[YQ];simp only[bS];rw[hL,a4];by_cases hc:(dpL l:Int)≤m<;>simp[hc,bS]
theorem Q5s:∀l,okSs l→∀m:Int,0≤m→m≤1000→VP l m=some (min (dpL l:Int) m):=Cr fun l hl ih m ac ad=>by
 have e1:=hl.1;have L:XE l m 0 0=some (max 0 (min (dpL l:Int) m)):=by
  by_cases hm:m=0
  ·subst hm;rw[XE];simp
   try omega
  refine Xh (F:=fun a i=>XE l m a i) (l:=l) (fun a t=>0≤a∧a≤m) (fun a t=>max a (min (dpL t:Int) m)) ?_ ?_ _ (by omega)
  ·intro a hI;rw[XE];simp[dpL,maxL];omega
  ·intro i v t a h0 h1 hv a3 hI a7;rw[XE];have hw:=QM h0 h1 (by omega)
   have a5:wr (m - 1)=m - 1:=ZB (by omega)
   have a6:wr (1+min (dpL v.f.fb:Int) (m - 1))=1+min (dpL v.f.fb:Int) (m - 1):=ZB (by omega)
   have a4:0<m:=by omega
   simp only[Option.bind_eq_bind,Option.bind_some,h1,if_true,a4,a3,Option.map_some,a5,ih v hv (m - 1) (by omega) (by omega),a6,hw]
   rw[a7 _ (by omega)]
   have:dpL (v::t)=max (dp v) (dpL t):=rfl;rw[this,dp_f];congr 1;omega
 rw[VP];simp only[Option.bind_eq_bind,Option.bind_some,L];congr 1;omega
theorem sz_f(s:Q0):sz s=1+szL s.f.fb:=by
 cases s with
 |mk x=>rw[sz];simp[szL,Q0.f]
theorem VE(s:Q0)(l:List Q0):szL (s::l)=sz s+szL l:=by simp[szL]
def szB(l:List Q0):Nat:=(l.map fun s=>szL s.f.fb).sum
theorem szL_B(l:List Q0):szL l=l.length+szB l:=by
 induction l with
 |nil=>rfl
 |cons s t ih=>rw[VE,sz_f,ih];simp[szB];omega
theorem Bu(s:Q0)(t:List Q0):szB (s::t)=szL s.f.fb+szB t:=by simp[szB]
abbrev cntQ(T k r:Int):Prop:=(T≤k→r=T)∧(k<T→k<r)∧r≤k+549755813888
theorem p_count:∀l,okSs l→∀k:Int,0≤k→k≤2000→wp (Xq l k) (cntQ (szL l) k):=Cr fun l hl ih k h0 h1=>by
 have e1:=hl.1;rw[Xq];simp only[bS];have hL:wp (ZE l k l.length l.length 0) (cntQ (szL l) k):=by
  refine Q18 (F:=fun c i=>ZE l k c l.length i) (l:=l) (fun c t=>0≤c∧c≤k+549755813888∧(c+szB t=(szL l:Int)∨(k<c∧k< (szL l:Int)))) ?_ ?_ _ ⟨by omega,by omega,.inl (by rw[szL_B];omega)⟩
  ·intro c hI;rw[ZE,if_neg (by omega)]
   refine Dq.2 ?_;simp[szB] at hI;unfold cntQ;omega
  ·intro i y t c h2 h3 hm a5 _ hI a7;rw[ZE,if_pos h3];rw[Bu] at hI;by_cases hc:k<c
   ·rw[if_pos hc];refine Dq.2 ?_;unfold cntQ;omega
   ·rw[if_neg hc,a5,omS,bS,ZB (n:=k - c) (by omega),QM h2 h3 (by omega)]
    obtain⟨r,er,hr⟩:=ih y hm (k - c) (by omega) (by omega)
    rw[er,bS,bS];unfold cntQ at hr;rw[ZB (n:=c+r) (by omega)]
    exact a7 _ ⟨by omega,by omega,by omega⟩
 obtain⟨r,er,hr⟩:=hL;rw[er,bS];exact Dq.2 hr
theorem r_sizeS:∀l,okSs l→∀k:Int,0≤k→k≤2000→wp (JW l k) (cntQ (szL l) k):=Cr fun l hl ih k h0 h1=>by
 have e1:=hl.1;rw[JW];simp only[bS];have hL:wp (K5 l k l.length 0) (cntQ (szL l) k):=by
  refine Q18 (F:=fun c i=>K5 l k c i) (l:=l) (fun c t=>0≤c∧c≤k+549755813888∧(c+szB t=(szL l:Int)∨(k<c∧k< (szL l:Int)))) ?_ ?_ _ ⟨by omega,by omega,.inl (by rw[szL_B];omega)⟩
  ·intro c hI;rw[K5,bS,bS,if_neg (by omega)]
   simp only[bS,if_false,Bool.false_eq_true];refine Dq.2 ?_;simp[szB] at hI;unfold cntQ;omega
  ·intro i y t c h2 h3 hm a5 _ hI a7;rw[K5,bS,bS,if_pos h3];rw[Bu] at hI;by_cases hc:c≤k
   ·rw[if_pos hc,bS,if_pos rfl];simp only;rw[a5,omS,bS,ZB (n:=k - c) (by omega),QM h2 h3 (by omega)]
    simp only[if_true];rw[show max 0 (k - c)=k - c by omega]
    obtain⟨r,er,hr⟩:=ih y hm (k - c) (by omega) (by omega)
    rw[er,bS,bS];unfold cntQ at hr;rw[ZB (n:=c+r) (by omega)]
    exact a7 _ ⟨by omega,by omega,by omega⟩
   ·rw[if_neg hc];simp only[bS,if_false,Bool.false_eq_true];refine Dq.2 ?_;unfold cntQ;omega
 obtain⟨r,er,hr⟩:=hL;rw[er,bS];exact Dq.2 hr
end Go.Proofs.YtkgphhemcglgnaaGreatDoor
end
section
namespace Go.Proofs.YtkgphhemcglgnaaGreatDoor
open Go HY
theorem p_cfM(l:List Zh)(c:Q3)(hl:l.length≤4611686018427387904)(hs:c.fh.length≤4611686018427387904):XJ l c=some (l.any fun m=> !(c.fh.contains m.fa)):=by
 obtain⟨r,e,h⟩:=idxF (l:=l) (q:=fun m=> !(c.fh.contains m.fa)) (L:=Z6 l c l.length) hl (fun i=>by rw[Z6]) (fun x _=>by unfold Jg;rw[NE _ _ hs];rfl)
 unfold XJ Vc;simp only[bS];rw[e];cases r with
 |inl a=>simp only[bS];rw[h];rfl
 |inr k=>simp only[bS];rw[h.2];simp[h.1]
theorem EP(c:Q3)(l:gLin)(hl:okL l)(hs:c.fh.length≤4611686018427387904):Xk c l=some (inS c.fh l):=by
 unfold Xk inS;rw[p_cfM _ _ (by have:=hl.2.1;omega) hs,bS,II]
theorem p_cfL(l:List gLin)(c:Q3)(hl:l.length≤4611686018427387904)(ha:∀a∈l,okL a)(hs:c.fh.length≤4611686018427387904):XY l c=some (l.any fun a=> !(inS c.fh a)):=by
 obtain⟨r,e,h⟩:=idxF (l:=l) (q:=fun a=> !(inS c.fh a)) (L:=Z9 l c l.length) hl (fun i=>by rw[Z9]) (fun x hx=>by unfold UD;rw[EP _ _ (ha x hx) hs];rfl)
 unfold XY Vo;simp only[bS];rw[e];cases r with
 |inl a=>simp only[bS];rw[h];rfl
 |inr k=>simp only[bS];rw[h.2];simp[h.1]
theorem Q45(c:Q3)(l:List Q7)(hl:l.length≤4611686018427387904)(hi:∀i∈l,okI i)(hs:c.fh.length≤4611686018427387904)(b:Bool):QG c b l l.length 0=some (b&&l.all fun i=>(XB i).all (inS c.fh)):=by
 refine Xh (F:=fun b i=>QG c b l l.length i) (l:=l) (fun _ _=>True) (fun b t=>b&&t.all fun i=>(XB i).all (inS c.fh)) ?_ ?_ b trivial
 ·intro b _;rw[QG,if_neg (by omega)];simp
 ·intro i y t b h0 h1 hm a3 _ ih;have hy:=hi y hm;rw[QG,if_pos h1,a3,bS,EP c y.fj hy.1 hs,bS,p_cfL y.fAt c (by have:=hy.2.1;omega) hy.2.2 hs,bS,QM h0 h1 hl,ih _ trivial,ih _ trivial,II]
  simp only[XB,List.all_cons];cases b<;>cases inS c.fh y.fj<;>simp
theorem Q2y(c:Q3)(l:List Q7)(hl:l.length≤4611686018427387904)(hb:okBs c.fi.fc):QN c l l.length 0=some (if Y7 c.fi l≠0 then .inr (Y7 c.fi l) else .inl ()):=by
 refine Xh (α:=Unit) (F:=fun _ i=>QN c l l.length i) (l:=l) (fun _ _=>True) (fun _ t=>if Y7 c.fi t≠0 then .inr (Y7 c.fi t) else .inl ()) ?_ ?_ () trivial
 ·intro _ _;rw[QN,if_neg (by omega)];simp[Y7]
 ·intro i y t _ h0 h1 hm a3 _ ih;rw[QN,if_pos h1,a3,bS,LM _ _ hb,bS,bS,bS,QM h0 h1 hl,ih () trivial,Y7];by_cases hf:y.fu=[];·simp[hf]
  ·simp only[hf,if_false,beq_iff_eq];cases ZK c.fi.fc y.fu with
   |none=>simp
   |some b=>
    by_cases h2:b.fd.fk=3
    ·by_cases h3:b.fC.length=y.fAt.length;·simp[h2,h3]
     ·simp[h2,h3];omega
    ·simp[h2]
theorem SL(n:Q9)(sc:List Str)(x:Q1):Ka n sc x=if(inS sc x.fj&&x.fe.all fun i=>(XB i).all (inS sc))=false then 9 else if x.fOp≠3 then 0 else match ZK n.fc x.fa with
 |none=>9
 |some b=>if b.fC.length≠x.fe.length then 11 else Y7 n x.fe:=by
 unfold Ka;have:(UG x).all (inS sc)=(inS sc x.fj&&x.fe.all fun i=>(XB i).all (inS sc)):=by
  unfold UG;rw[List.all_cons];congr 1;generalize x.fe=l
  induction l with
  |nil=>rfl
  |cons a t ih=>simp only[List.map_cons,List.flatten_cons,List.all_append,List.all_cons];rw[ih]
 rw[this]<;>rfl
theorem p_node(c:Q3)(x:Q1)(hx:okE (.mk x))(hb:okBs c.fi.fc)(hs:c.fh.length≤4611686018427387904):VV c x=some (Ka c.fi c.fh x):=by
 obtain⟨h1,h2,h3,h4,h5⟩:=hx.of;have hI:x.fe.length≤4611686018427387904:=by omega
 rw[SL];unfold VV;rw[EP c _ h1 hs];simp only[bS];rw[Q45 c _ hI h3 hs,bS];generalize (inS c.fh x.fj&&x.fe.all fun i=>(XB i).all (inS c.fh))=A
 rw[LM _ _ hb,Q2y c _ hI hb];simp only[bS];cases A with
 |false=>simp
 |true=>
  by_cases ho:x.fOp=3
  ·simp only[ho,if_true,bne_self_eq_false,Bool.false_eq_true,if_false];cases ZK c.fi.fc x.fa with
   |none=>simp
   |some b=>
    by_cases h6:b.fC.length=x.fe.length
    ·by_cases h7:Y7 c.fi x.fe=0;·simp[h6,h7,bS]
     ·simp[h6,h7,bS]
    ·have:¬(b.fC.length:Int)=x.fe.length:=by omega
     simp[h6,this]
  ·simp[ho]
theorem Of{α:Type}(f:α→Str)(l:List α)(s:Str):(l.map f).contains s=l.any fun b=>f b==s:=by
 induction l with
 |nil=>rfl
 |cons a t ih=>
  rw[List.map_cons,List.contains_cons,List.any_cons,ih];congr 1;rw[Bool.eq_iff_iff,beq_iff_eq,beq_iff_eq];exact eq_comm
theorem Q35(ls:List gLin)(bs:List Qw)(i k:Int)(a:gLin)(m:Zh)(hi:ix ls i=some a)(hk:ix a.fL k=some m)(hl:bs.length≤4611686018427387904)(b:Bool):XD ls bs i k b 0=some (b || bs.any fun y=>y.fa==m.fa):=by
 refine Xh (F:=fun b j=>XD ls bs i k b j) (l:=bs) (fun _ _=>True) (fun b t=>b || t.any fun y=>y.fa==m.fa) ?_ ?_ b trivial
 ·intro b _;rw[XD,bS,if_neg (by omega)];simp
 ·intro j y t b h0 h1 hm a3 _ ih;rw[XD,bS,if_pos h1,a3,bS,hi,bS,hk,bS,QM h0 h1 hl,ih _ trivial,ih _ trivial,List.any_cons];cases b<;>simp
theorem Q1i(ls:List gLin)(bs:List Qw)(h1:ls.length≤4611686018427387904)(h2:∀a∈ls,okL a)(hl:bs.length≤4611686018427387904):DH ls bs=some (ls.all (inS (bs.map (·.fa)))):=by
 have h5:∀(i:Int) (a:gLin),ix ls i=some a→okL a→Yv ls bs i 0=some (if a.fL.all (fun m=>(bs.map (·.fa)).contains m.fa) then .inl () else .inr false):=fun i a hi ha=>by
  refine Le (L:=Yv ls bs i) (by have:=ha.2.1;omega) (by rw[Yv,hi,bS,bS,if_neg (by omega)]) (fun k m h3 h4 hm hk=> ?_)
  rw[Yv,hi,bS,bS,if_pos h4,bS,Q35 ls bs i k a m hi hk hl,bS,Of,Bool.false_or]
 have hL:Yu ls bs 0=some (if ls.all (inS (bs.map (·.fa))) then .inl () else .inr false):=by
  refine Le (L:=Yu ls bs) h1 (by rw[Yu,bS,if_neg (by omega)]) (fun i a h3 h4 hm hi=> ?_)
  rw[Yu,bS,if_pos h4,bS,h5 i a hi (h2 a hm)];unfold inS;cases a.fL.all (fun m=>(bs.map (·.fa)).contains m.fa)<;>simp[bS]
 unfold DH;rw[bS,hL];cases ls.all (inS (bs.map (·.fa)))<;>rfl
theorem r_lins(l:List Q7)(hl:l.length≤6)(ha:∀i∈l,i.fAt.length≤6):Nn l=some (l.map XB).flatten:=by
 have key:∀(t p:List Q7),l=p++t→((p.map XB).flatten).length≤7*p.length→K4 l (p.map XB).flatten p.length=some (l.map XB).flatten:=by
  intro t
  induction t with
  |nil=>
   intro p e _;have:p.length=l.length:=by rw[e];simp
   rw[K4,bS,if_neg (by omega)];simp at e;rw[e]
  |cons i t ih=>
   intro p e hp;have a3:(p.length:Int)<l.length:=by rw[e];simp;omega
   have hA:=ha i (by rw[e];simp)
   have ih:=ih (p++[i]) (by rw[e];simp) (by rw[List.map_append,List.flatten_append,List.length_append];simp only[List.map_cons,List.map_nil,List.flatten_cons,List.flatten_nil,List.append_nil,XB,List.length_cons,List.length_append,List.length_nil];omega)
   rw[show((p++[i]).length:Int)=(p.length:Int)+1 by simp,show((p++[i]).map XB).flatten=((p.map XB).flatten++[i.fj])++i.fAt by simp[XB]] at ih
   rw[K4,bS,if_pos a3,Yg e,bS,if_pos (by omega),bS,bS,if_pos (by rw[List.length_append,List.length_map];simp only[List.length_singleton];omega),bS,QM (by omega) a3 (by omega)]
   exact ih
 unfold Nn;simp only[bS];have h0:K4 l [] 0=_:=key l [] rfl (by simp)
 rw[h0,bS]
theorem Q37(n:Q9)(x:Q1)(hl:x.fe.length≤4611686018427387904)(hb:okBs n.fc):XF n x 0=some (if Y7 n x.fe≠0 then .inr (Y7 n x.fe) else .inl ()):=by
 refine Xh (α:=Unit) (F:=fun _ i=>XF n x i) (l:=x.fe) (fun _ _=>True) (fun _ t=>if Y7 n t≠0 then .inr (Y7 n t) else .inl ()) ?_ ?_ () trivial
 ·intro _ _;rw[XF,bS,if_neg (by omega)];simp[Y7]
 ·intro i y t _ h0 h1 hm a3 _ ih;rw[XF,bS,if_pos h1,a3,bS,bS,LP _ _ hb,bS,bS,bS,bS,QM h0 h1 hl,ih () trivial,Y7];by_cases hf:y.fu=[];·simp[hf]
  ·simp only[hf,if_false,beq_iff_eq];cases ZK n.fc y.fu with
   |none=>simp
   |some b=>
    by_cases h2:b.fd.fk=3
    ·by_cases h3:b.fC.length=y.fAt.length;·simp[h2,h3]
     ·simp[h2,h3];omega
    ·simp[h2]
theorem Rs{x:Q1}(h:raE x=true):(x.ff.length:Int)=Mg x.fOp∧x.fe.length≤6∧∀i∈x.fe,i.fAt.length≤6:=by
 unfold raE at h;rw[Bool.and_eq_true,decide_eq_true_iff,List.all_eq_true] at h;exact⟨h.1.1,h.1.2,fun i hi=>by simpa using h.2 i hi⟩
theorem r_node(n:Q9)(bs:List Qw)(x:Q1)(hx:okE (.mk x))(hr:raE x=true)(hb:okBs n.fc)(hs:bs.length≤4611686018427387904):No n bs x=some (Ka n (bs.map (·.fa)) x):=by
 obtain⟨h1,h2,h3,h4,h5⟩:=hx.of;obtain⟨r1,r2,r3⟩:=Rs hr;have hI:x.fe.length≤4611686018427387904:=by omega
 have a4:((x.fe.map XB).flatten).length≤4611686018427387904:=by
  have:∀l:List Q7,(∀i∈l,i.fAt.length≤6)→((l.map XB).flatten).length≤7*l.length:=by
   intro l
   induction l with
   |nil=>intro _;simp
   |cons a t ih=>intro h;have:=ih (fun i hi=>h i (by simp[hi]));have:=h a (by simp);simp[XB] at*;omega
  have:=this _ r3;omega
 have a5:∀a∈ (x.fe.map XB).flatten,okL a:=fun a ha=>Fh h1 h3 a (by unfold UG;simp[ha])
 rw[SL];unfold No;simp only[bS];rw[Q1i [x.fj] bs (by simp) (by simpa using h1) hs,r_lins _ r2 r3]
 simp only[bS];rw[Q1i _ bs a4 a5 hs,LP _ _ hb,Q37 n x hI hb];simp only[bS];have e1:[x.fj].all (inS (bs.map (·.fa)))=inS (bs.map (·.fa)) x.fj:=by simp
 have e2:((x.fe.map XB).flatten).all (inS (bs.map (·.fa)))=x.fe.all fun i=>(XB i).all (inS (bs.map (·.fa))):=by
  generalize x.fe=l
  induction l with
  |nil=>rfl
  |cons a t ih=>simp only[List.map_cons,List.flatten_cons,List.all_append,List.all_cons];rw[ih]
 rw[e1,e2];generalize inS (bs.map (·.fa)) x.fj=A;generalize (x.fe.all fun i=>(XB i).all (inS (bs.map (·.fa))))=B
 have a3:(if(x.fOp !=(3:Int))=true then some (0:Int) else(if(ZK n.fc x.fa).isSome=true then(if(((((ZK n.fc x.fa).getD zBuf).fC.length:Nat):Int) !=(x.fe.length:Int))=true then some 11 else((some (if Y7 n x.fe≠0 then .inr (Y7 n x.fe) else .inl ()):Option (Unit ⊕ Int))>>=fun a6=>(match a6 with | (.inl v12)=>some (0:Int) | (.inr v13)=>some v13))) else some 9))=some (if x.fOp≠3 then 0 else match ZK n.fc x.fa with | none=>9 | some b=>if b.fC.length≠x.fe.length then 11 else Y7 n x.fe):=by
  by_cases ho:x.fOp=3
  ·simp only[ho,if_true,bne_self_eq_false,Bool.false_eq_true,if_false];cases ZK n.fc x.fa with
   |none=>simp
   |some b=>
    by_cases h6:b.fC.length=x.fe.length
    ·by_cases h7:Y7 n x.fe=0;·simp[h6,h7,bS]
     ·simp[h6,h7,bS]
    ·have:¬(b.fC.length:Int)=x.fe.length:=by omega
     simp[h6,this]
  ·simp[ho]
 cases A with
 |false=>simp[bS]
 |true=>
  cases B with
  |false=>simp[bS]
  |true=>
   simp only[if_true,bS,Bool.true_and,Bool.true_eq_false,Bool.false_eq_true,if_false];exact a3
end Go.Proofs.YtkgphhemcglgnaaGreatDoor
end
section
namespace Go.Proofs.YtkgphhemcglgnaaGreatDoor
open Go HY
theorem Pv(n:Q9)(x:Q1):kd n (.mk x)=kd1 n x (x.ff.map (kd n)):=by rw[kd];simp
theorem kd_err(n:Q9)(e:Qa)(h:(kd n e).2≠0):kd n e=(zT,10):=by
 cases e with
 |mk x=>
  rw[Pv] at h ⊢;unfold kd1 at h ⊢;split;·rfl
  ·rename_i h1;rw[if_neg h1] at h;split;·rename_i h2;rw[if_pos h2] at h;exact absurd rfl h
   ·rename_i h2;rw[if_neg h2] at h;split;·rename_i h3;rw[if_pos h3] at h;exact absurd rfl h
    ·rename_i h3;rw[if_neg h3] at h;split;·rename_i h4;rw[if_pos h4] at h;exact absurd rfl h
     ·rename_i h4;rw[if_neg h4] at h;split;·rename_i h5;rw[if_pos h5] at h;exact absurd rfl h
      ·rename_i h5;rw[if_neg h5] at h;split;·rfl
       ·rename_i hl;rw[hl] at h;exact absurd rfl h
       ·rename_i hl;rw[hl] at h;simp only at h ⊢;split;·rfl
        ·rename_i h6;rw[if_neg h6] at h;split;·rename_i h7;rw[if_pos h7] at h;exact absurd rfl h
         ·rename_i h7;rw[if_neg h7] at h;exact absurd rfl h
theorem ER{x:Q1}(h:KP x=0):plE x=true∧raE x=true∧tyE x=true:=by
 unfold KP at h;rcases Bool.eq_false_or_eq_true (plE x) with a1 | a1
 rotate_left
 ·simp[a1] at h
 rcases Bool.eq_false_or_eq_true (naE x) with a2 | a2
 rotate_left
 ·simp[a1,a2] at h
 rcases Bool.eq_false_or_eq_true (raE x) with a3 | a3
 rotate_left
 ·simp[a1,a2,a3] at h
 rcases Bool.eq_false_or_eq_true (tyE x) with a4 | a4
 rotate_left
 ·simp[a1,a2,a3,a4] at h
 exact⟨a1,a3,a4⟩
inductive Ar (x:Q1):Prop
 |a0 (h:x.fOp=1∨x.fOp=2∨x.fOp=3) (e:x.ff=[])
 |a1 (h:x.fOp=8∨x.fOp=12) (a:Qa) (e:x.ff=[a]) (c:isC a.f=false)
 |aN (h:x.fOp=18) (a:Qa) (e:x.ff=[a]) (c:isC a.f=true)
 |aB (h:x.fOp=16∨x.fOp=17) (a b:Qa) (e:x.ff=[a,b]) (c:isC a.f=true) (d:isC b.f=true)
 |aI (h:x.fOp=11) (a b c:Qa) (e:x.ff=[a,b,c]) (h1:isC a.f=true) (h2:isC b.f=false) (h3:isC c.f=false)
 |a2 (h:x.fOp≠1∧x.fOp≠2∧x.fOp≠3∧x.fOp≠8∧x.fOp≠12∧x.fOp≠18∧x.fOp≠16∧x.fOp≠17∧x.fOp≠11) (a b:Qa) (e:x.ff=[a,b]) (h1:isC a.f=false) (h2:isC b.f=false)
theorem len1{α:Type}{l:List α}(h:l.length=1):∃a,l=[a]:=List.length_eq_one_iff.1 h
theorem len2{α:Type}{l:List α}(h:l.length=2):∃a b,l=[a,b]:=by
 match l,h with
 | [a,b],_=>exact⟨a,b,rfl⟩
theorem len3{α:Type}{l:List α}(h:l.length=3):∃a b c,l=[a,b,c]:=by
 match l,h with
 | [a,b,c],_=>exact⟨a,b,c,rfl⟩
theorem ar_of{x:Q1}(hr:raE x=true)(ht:tyE x=true):Ar x:=by
 obtain⟨h1,_,_⟩:=Rs hr;have h2:argG x.fOp 0 x.ff=true:=by
  unfold tyE at ht;rw[Bool.and_eq_true] at ht;exact ht.2
 unfold Mg at h1;by_cases k0:x.fOp=1∨x.fOp=2∨x.fOp=3
 ·rw[if_pos k0] at h1;exact .a0 k0 (List.eq_nil_of_length_eq_zero (by omega))
 rw[if_neg k0] at h1;by_cases k1:x.fOp=8∨x.fOp=12∨x.fOp=18
 ·rw[if_pos k1] at h1;obtain⟨a,e⟩:=len1 (l:=x.ff) (by omega)
  rw[e] at h2;simp only[argG,Bool.and_true] at h2;by_cases k:x.fOp=18;·exact .aN k a e (by simpa[k,Dp] using h2)
  ·exact .a1 (by omega) a e (by rcases(show x.fOp=8∨x.fOp=12 by omega) with q | q<;>simpa[q,Dp] using h2)
 rw[if_neg k1] at h1;by_cases k2:x.fOp=11
 ·rw[if_pos k2] at h1;obtain⟨a,b,c,e⟩:=len3 (l:=x.ff) (by omega)
  rw[e] at h2;simp[argG,Dp,k2] at h2;exact .aI k2 a b c e h2.1 h2.2.1 h2.2.2
 rw[if_neg k2] at h1;obtain⟨a,b,e⟩:=len2 (l:=x.ff) (by omega)
 rw[e] at h2;by_cases k3:x.fOp=16∨x.fOp=17;·refine .aB k3 a b e ?_ ?_<;>rcases k3 with q | q<;>simp[argG,Dp,q] at h2<;>simp[h2]
 ·have q1:∀i,Dp x.fOp i=false:=fun i=>by
   unfold Dp;have:x.fOp≠16∧x.fOp≠17∧x.fOp≠18:=by omega
   simp[k2,this]
  simp[argG,q1] at h2;exact .a2 (by omega) a b e h2.1 h2.2
abbrev HA(e:Qa):Prop:=∀y∈Qy e,KP y.f=0
theorem HA.args{x:Q1}(h:HA (.mk x)):KP x=0∧∀a∈x.ff,HA a:=by
 unfold HA at*;rw[Na] at h;refine⟨by have:=h (.mk x) (by simp);rwa [Qa.f_mk] at this,fun a ha y hy=>h y ?_⟩
 exact List.mem_cons_of_mem _ (List.mem_flatten.2 ⟨Qy a,List.mem_map_of_mem ha,hy⟩)
def Ui(n:Q9):List Qa→Option (List Qc)
 | []=>some []
 |a::t=>if(kd n a).2≠0 then none else(Ui n t).map ((kd n a).1:: ·)
theorem EE(n:Q9):∀l,(match Ui n l with | none=>(l.map (kd n)).any (fun r=>r.2 !=0)=true | some ts=>(l.map (kd n)).any (fun r=>r.2 !=0)=false∧l.map (kd n)=ts.map fun t=>(t,(0:Int)))
 | []=>⟨rfl,rfl⟩
 |a::t=>by
  have ih:=EE n t;unfold Ui;by_cases h:(kd n a).2=0
  ·rw[if_neg (by simp[h])]
   cases hk:Ui n t with
   |none=>rw[hk] at ih;simp only[Option.map_none];rw[List.map_cons,List.any_cons,ih];simp
   |some ts=>
    rw[hk] at ih;simp only[Option.map_some];rw[List.map_cons,List.any_cons,ih.1,ih.2];refine⟨by simp[h],?_⟩
    rw[List.map_cons];congr 1;rw[← h]
  ·rw[if_pos h];simp only;rw[List.map_cons,List.any_cons];simp[h]
theorem Te(c:Q3)(l:List Qa)(hl:l.length≤1000)(ih:∀a∈l,Zq c a.f=some (kd c.fi a)):∀(t p:List Qa) (ts:List Qc),l=p++t→ts.length≤p.length→Z5 c zT ts l l.length p.length=some (match Ui c.fi t with | none=>.inr (zT,10) | some us=>.inl (zT,ts++us))
 | [],p,ts,e,_=>by
  have:p.length=l.length:=by rw[e];simp
  rw[Z5,if_neg (by omega)];simp[Ui]
 |a::t,p,ts,e,hts=>by
  have a3:(p.length:Int)<l.length:=by rw[e];simp;omega
  have h2:=Te c l hl ih t (p++[a]) (ts++[(kd c.fi a).1]) (by rw[e];simp) (by simp;omega)
  rw[show((p++[a]).length:Int)=(p.length:Int)+1 by simp] at h2
  rw[Z5,if_pos a3,Yg e,omS,bS,ih a (by rw[e];simp),bS,Ui]
  by_cases h:(kd c.fi a).2=0
  ·rw[if_neg (by simp[h]),if_pos (by omega),bS,QM (by omega) a3 (by omega),h2,if_neg (by simp[h])]
   cases Ui c.fi t<;>simp
  ·rw[if_pos (by simp[h]),if_pos h]
   have:=kd_err c.fi a h;rw[this]
theorem Fn(n:Q9)(x:Q1)(hl:x.ff.length≤1000)(ih:∀a∈x.ff,VA n a.f=some (kd n a)):∀(t p:List Qa) (ts:List Qc),x.ff=p++t→ts.length≤p.length→Yb n x zT ts p.length=some (match Ui n t with | none=>.inr (zT,10) | some us=>.inl (zT,ts++((t.zip us).filter fun q=> !(isC q.1.f)).map (·.2)))
 | [],p,ts,e,_=>by
  have:p.length=x.ff.length:=by rw[e];simp
  rw[Yb,bS,if_neg (by omega)];simp[Ui]
 |a::t,p,ts,e,hts=>by
  have a3:(p.length:Int)<x.ff.length:=by rw[e];simp;omega
  have h2:∀a4:List Qc,a4.length≤p.length+1→_:=fun a4 hh=>Fn n x hl ih t (p++[a]) a4 (by rw[e];simp) (by simp;omega)
  rw[show((p++[a]).length:Int)=(p.length:Int)+1 by simp] at h2
  rw[Yb,bS,if_pos a3,Yg e,omS,bS,ih a (by rw[e];simp),bS,Ui]
  simp only[bS,DN];by_cases h:(kd n a).2=0
  ·rw[if_neg (show ¬((kd n a).2 !=0)=true by simp[h]),QM (by omega) a3 (by omega),if_neg (show ¬(kd n a).2≠0 by simp[h]),if_pos (show(ts.length+1)*40≤140737488355328∧ts.length+1≤9223372036854775807 by omega)]
   cases hc:isC a.f with
   |true=>
    rw[if_pos rfl,h2 ts (by omega)]
    cases Ui n t<;>simp[hc]
   |false=>
    rw[if_neg (by simp),h2 _ (by simp;omega)]
    cases Ui n t<;>simp[hc]
  ·rw[if_pos (by simp[h]),if_pos h]
   have:=kd_err n a h;rw[this]<;>rfl
theorem SZ(a b:Qc):(!(a.fk==b.fk&& (a.fm==b.fm&& (a.fv==b.fv&& (a.fo==b.fo&& (a.fw==b.fw&&true))))))=decide (a≠b):=by
 cases a;cases b;rw[Bool.eq_iff_iff];simp
theorem Oy{n:Q9}{x:Q1}(h:Ui n x.ff=none):kd1 n x (x.ff.map (kd n))=(zT,10):=by
 have:=EE n x.ff;rw[h] at this;unfold kd1;rw[if_pos this]
theorem EF{n:Q9}:∀ {l:List Qa} {ts:List Qc},Ui n l=some ts→ts.length=l.length
 | [],ts,h=>by cases h;rfl
 |a::t,ts,h=>by
  unfold Ui at h;split at h;·cases h
  ·cases hk:Ui n t with
   |none=>rw[hk] at h;cases h
   |some us=>rw[hk] at h;cases h;simp[EF hk]
theorem Oz{n:Q9}{x:Q1}{ts:List Qc}(h:Ui n x.ff=some ts):kd1 n x (x.ff.map (kd n))=if x.fOp=1∨x.fOp=12 then(x.fd,(0:Int)) else if x.fOp=2 then(⟨3,0,0,0,0⟩,0)
 else if x.fOp=3 then(((ZK n.fc x.fa).getD zBuf).fd,0) else if x.fOp=16∨x.fOp=17∨x.fOp=18 then(zT,0)
 else match ts.reverse with
  | []=>(zT,10)
  | [a]=>(a,0)
  |a::b::_=>if b≠a then(zT,10) else if isC x then(zT,0) else(a,0):=by
 have:=EE n x.ff;rw[h] at this;unfold kd1;rw[if_neg (by simp[this.1]),this.2,← List.map_reverse]
 cases ts.reverse with
 |nil=>rfl
 |cons a t=>cases t<;>rfl
theorem Q5q(c:Q3)(hb:okBs c.fi.fc):∀e:Qa,HA e→Zq c e.f=some (kd c.fi e):=Qa.ind fun x ih hg=>by
 obtain⟨g1,g2⟩:=hg.args;obtain⟨_,hr,ht⟩:=ER g1;have a4:=ar_of hr ht;have hl:x.ff.length≤1000:=by
  have:=(Rs hr).1;unfold Mg at this;split at this;·omega
  ·split at this;·omega
   ·split at this<;>omega
 have h0:Z5 c zT [] x.ff x.ff.length 0=_:=Te c x.ff hl (fun a ha=>ih a ha (g2 a ha)) x.ff [] [] rfl (by simp)
 rw[Qa.f_mk,Zq,Pv];simp only[bS];rw[show(Qc.mk (0:Int) (0:Int) (0:Int) (0:Int) (0:Int))=zT from rfl,h0];cases hk:Ui c.fi x.ff with
 |none=>rw[Oy hk];rfl
 |some ts=>
  rw[Oz hk];have a3:=EF hk;simp only[bS,List.nil_append,LM _ _ hb,WM,SZ];cases a4 with
  |a0 h e=>rcases h with h | h | h<;>simp[h,bS]
  |a1 h a e _=>
   rw[e] at a3;obtain⟨t,rfl⟩:=len1 (l:=ts) (by simpa using a3)
   rcases h with h | h
   ·simp[h,bS,ix]
   ·simp[h,bS]
  |aN h a e _=>simp[h,bS]
  |aB h a b e _ _=>rcases h with h | h<;>simp[h,bS]
  |aI h a b d e _ _ _=>
   rw[e] at a3;obtain⟨t,u,v,rfl⟩:=len3 (l:=ts) (by simpa using a3)
   have w1:wr (1:Int)=1:=by decide
   have w2:wr (2:Int)=2:=by decide
   have hc:isC x=false:=by simp[isC,h]
   by_cases q:u=v<;>simp[h,bS,ix,w1,w2,q,hc]
  |a2 h a b e _ _=>
   rw[e] at a3;obtain⟨t,u,rfl⟩:=len2 (l:=ts) (by simpa using a3)
   have w1:wr (0:Int)=0:=by decide
   have w2:wr (1:Int)=1:=by decide
   cases hc:isC x<;>by_cases q:t=u<;>simp[h,bS,ix,w1,w2,q]
theorem r_Kind(n:Q9)(hb:okBs n.fc):∀e:Qa,HA e→VA n e.f=some (kd n e):=Qa.ind fun x ih hg=>by
 obtain⟨g1,g2⟩:=hg.args;obtain⟨_,hr,ht⟩:=ER g1;have a5:=ar_of hr ht;have hl:x.ff.length≤1000:=by
  have:=(Rs hr).1;unfold Mg at this;split at this;·omega
  ·split at this;·omega
   ·split at this<;>omega
 have h0:Yb n x zT [] 0=_:=Fn n x hl (fun a ha=>ih a ha (g2 a ha)) x.ff [] [] rfl (by simp)
 rw[Qa.f_mk,VA,Pv];simp only[bS];rw[show(Qc.mk (0:Int) (0:Int) (0:Int) (0:Int) (0:Int))=zT from rfl,h0];cases hk:Ui n x.ff with
 |none=>rw[Oy hk];rfl
 |some ts=>
  rw[Oz hk];have a3:=EF hk;simp only[bS,List.nil_append,LP _ _ hb,DN,SZ];cases a5 with
  |a0 h e=>
   rw[e] at a3 ⊢;obtain rfl:ts=[]:=List.eq_nil_of_length_eq_zero (by simpa using a3)
   rcases h with h | h | h<;>simp[h,bS]
  |a1 h a e h1=>
   rw[e] at a3 ⊢;obtain⟨t,rfl⟩:=len1 (l:=ts) (by simpa using a3)
   rcases h with h | h
   ·have hc:isC x=false:=by simp[isC,h]
    simp[h,bS,ix,h1,hc]
   ·simp[h,bS,h1]
  |aN h a e h1=>
   rw[e] at a3 ⊢;obtain⟨t,rfl⟩:=len1 (l:=ts) (by simpa using a3)
   have hc:isC x=true:=by simp[isC,h]
   simp[h,bS,h1,hc]
  |aB h a b e h1 h2=>
   rw[e] at a3 ⊢;obtain⟨t,u,rfl⟩:=len2 (l:=ts) (by simpa using a3)
   have hc:isC x=true:=by rcases h with h | h<;>simp[isC,h]
   rcases h with h | h<;>simp[h,bS,h1,h2,hc]
  |aI h a b d e h1 h2 h3=>
   rw[e] at a3 ⊢;obtain⟨t,u,v,rfl⟩:=len3 (l:=ts) (by simpa using a3)
   have hc:isC x=false:=by simp[isC,h]
   by_cases q:u=v<;>simp[h,bS,ix,q,hc,h1,h2,h3]
  |a2 h a b e h1 h2=>
   rw[e] at a3 ⊢;obtain⟨t,u,rfl⟩:=len2 (l:=ts) (by simpa using a3)
   cases hc:isC x<;>by_cases q:t=u<;>simp[h,bS,ix,q,h1,h2]
theorem Ou{α:Type}{f:α→Int}:∀ {l:List α},fstE f l=0→∀a∈l,f a=0
 | [],_,a,h=>by cases h
 |b::t,hf,a,h=>by
  rw[fstE] at hf;by_cases hb:f b=0
  ·rw[if_neg (by simp[hb])] at hf
   rcases List.mem_cons.1 h with rfl | h
   ·exact hb
   ·exact Ou hf a h
  ·rw[if_pos hb] at hf;exact absurd hf hb
theorem Q12{x:Q1}(h:C8 x=0):HA (.mk x)∧(Qy (.mk x)).length≤2000:=by
 unfold C8 at h;split at h;·cases h
 ·split at h;·cases h
  ·exact⟨Ou h,by omega⟩
theorem B0(c:Q3)(hb:okBs c.fi.fc)(hs:c.fh.length≤4611686018427387904):∀l:List Qa,(∀a∈l,okE a)→Xi c l=some (fstE (fun y=>Ka c.fi c.fh y.f) l)
 | [],_=>rfl
 |a::t,h=>by
  have ha:okE (.mk a.f):=by rw[Qa.mk_f];exact h a (by simp)
  rw[Xi,p_node c a.f ha hb hs,bS,B0 c hb hs t (fun b hb=>h b (by simp[hb])),fstE]
  by_cases hp:Ka c.fi c.fh a.f=0;·simp[hp]
  ·simp[hp]
theorem LN(c:Q3)(x:Q1)(hx:okE (.mk x))(hb:okBs c.fi.fc)(hs:c.fh.length≤4611686018427387904):ZU c x=some (KD c.fi c.fh x):=by
 unfold ZU KD;rw[Q2x x hx,bS];by_cases h1:C8 x=0
 ·obtain⟨hg,_⟩:=Q12 h1;have hk:=Q5q c hb (.mk x) hg;rw[Qa.f_mk] at hk;rw[if_neg (by simp[h1]),if_neg (by simp[h1]),Iz x (Sp _ hx),bS,B0 c hb hs _ (EK _ hx),bS,hk]
  by_cases h2:fstE (fun y=>Ka c.fi c.fh y.f) (Qy (.mk x))=0
  ·rw[if_pos h2,if_neg (by simp[h2])];rfl
  ·rw[if_neg h2,if_pos h2];rfl
 ·rw[if_pos (by simp[h1]),if_pos h1];rfl
theorem r_All:∀e:Qa,okE e→(Qy e).length≤100000→UK e.f=some (Qy e):=Qa.ind fun x ih hx hn=>by
 obtain⟨_,_,_,hA,a5⟩:=hx.of;rw[Na,List.length_cons] at hn;have key:∀(t p:List Qa),x.ff=p++t→Kz x (.mk x::YJ p) p.length=some (.mk x::YJ x.ff):=by
  intro t
  induction t with
  |nil=>
   intro p e;have:p.length=x.ff.length:=by rw[e];simp
   rw[Kz,bS,if_neg (by omega)];simp at e;rw[e]
  |cons a t a3=>
   intro p e;have a4:(p.length:Int)<x.ff.length:=by rw[e];simp;omega
   have a7:(YJ p).length+(Qy a).length≤(YJ x.ff).length:=by
    rw[e];simp[YJ]
   have a3:=a3 (p++[a]) (by rw[e];simp)
   rw[show((p++[a]).length:Int)=(p.length:Int)+1 by simp,show YJ (p++[a])=YJ p++Qy a by simp[YJ]] at a3
   have a6:a∈x.ff:=by rw[e];simp
   rw[Kz,bS,if_pos a4,Yg e,omS,bS,ih a a6 (a5 a a6) (by omega),bS,if_pos (by rw[List.length_cons,List.length_map];omega),bS,QM (by omega) a4 (by omega)]
   exact a3
 have h0:Kz x [.mk x] 0=_:=key x.ff [] rfl;rw[Qa.f_mk,UK];simp only[bS];rw[h0,bS,Na]
theorem ES(n:Q9)(bs:List Qw)(x:Q1)(hx:okE (.mk x))(hb:okBs n.fc)(hs:bs.length≤4611686018427387904):Uh n bs x=some (KD n (bs.map (·.fa)) x):=by
 unfold Uh KD;rw[Q34 x hx,bS];by_cases h1:C8 x=0
 ·obtain⟨hg,a7⟩:=Q12 h1;have hk:=r_Kind n hb (.mk x) hg;have hA:=r_All (.mk x) hx (by omega)
  rw[Qa.f_mk] at hk hA;have hL:Xr bs n zT (Qy (.mk x)) 0=some (if fstE (fun y=>Ka n (bs.map (·.fa)) y.f) (Qy (.mk x))≠0 then .inr (zT,fstE (fun y=>Ka n (bs.map (·.fa)) y.f) (Qy (.mk x))) else .inl zT):=by
   refine Xh (α:=Unit) (F:=fun _ i=>Xr bs n zT (Qy (.mk x)) i) (l:=Qy (.mk x)) (fun _ _=>True) (fun _ t=>if fstE (fun y=>Ka n (bs.map (·.fa)) y.f) t≠0 then .inr (zT,fstE (fun y=>Ka n (bs.map (·.fa)) y.f) t) else .inl zT) ?_ ?_ () trivial
   ·intro _ _;rw[Xr,bS,if_neg (by omega)];simp[fstE]
   ·intro i y t _ h3 h4 hm a3 _ ih;have hy:okE (.mk y.f):=by rw[Qa.mk_f];exact EK _ hx y hm
    rw[Xr,bS,if_pos h4,a3,omS,bS,r_node n bs y.f hy (ER (hg y hm)).2.1 hb hs,bS,QM h3 h4 (by omega),ih () trivial,fstE]
    by_cases hz:Ka n (bs.map (·.fa)) y.f=0;·simp[hz]
    ·simp[hz,bS,zT]
  rw[if_neg (by simp[h1]),if_neg (by simp[h1]),hA,bS,bS,show(Qc.mk (0:Int) (0:Int) (0:Int) (0:Int) (0:Int))=zT from rfl,hL,hk]
  by_cases h2:fstE (fun y=>Ka n (bs.map (·.fa)) y.f) (Qy (.mk x))=0
  ·simp[h2,bS]
  ·simp[h2,bS]
 ·rw[if_pos (by simp[h1]),if_pos h1];rfl
end Go.Proofs.YtkgphhemcglgnaaGreatDoor
end
