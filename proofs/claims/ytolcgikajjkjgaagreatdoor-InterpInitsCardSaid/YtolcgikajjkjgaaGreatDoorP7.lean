/- Proved here: for every input the law InterpInits returns true, and its arguments read afterwards as they read before. Condition: none beyond the statement's own. -/
import Derived.Test.YtolcgikajjkjgaaGreatDoorP6
import Derived.HandedShaped
import Derived.Handy
import Derived.Lay
import Derived.ProofKit
import Derived.SevenTiedAt
import Derived.Shelf.Vars
import Derived.Test.YtolcgikajjkjgaaGreatDoorCards
import Derived.Test.YtolcgikajjkjgaaGreatDoorRows
import Derived.Test.YtolcgikajjkjgaaGreatDoorTie
import Derived.WalkKit
set_option linter.unusedVariables false
set_option linter.unusedSimpArgs false
section
namespace Go.Proofs.YtolcgikajjkjgaaGreatDoor
open Go HY
set_option linter.unusedVariables false
set_option linter.unusedSimpArgs false
def zT:Q6:=⟨0,0,0,0,0⟩
def tyOK(t:Q6):Bool:=if t.fKind=1∨t.fKind=3 then t.fBits==0&& (t.fFrac==0&& (t.fRound==0&&t.fOver==0)) else decide (t.fKind=2∧2≤t.fBits∧t.fBits≤31∧0≤t.fFrac∧t.fFrac≤30∧1≤t.fRound∧t.fRound≤4∧(t.fOver=1∨t.fOver=2))
def Kf(d:List Int):Int:=if 6<d.length then 2 else if d.any (fun v=>decide (v<1)) then 1 else if(Ko 1 d).isSome then 0 else 2
def vlOK(t:Q6)(v:gVal):Bool:=
 if t.fKind=2 then decide (v.fD=1∧ -(2^ (t.fBits - 1).toNat:Int)≤v.fN∧v.fN< (2^ (t.fBits - 1).toNat:Int))
 else decide (-2147483647≤v.fN∧v.fN≤2147483647∧1≤v.fD∧v.fD≤2147483647∧(if t.fKind=3 then v.fD=1 else Nat.gcd v.fN.natAbs v.fD.natAbs=1))
def zLn(l:gLin):Bool:=l.fK==0&&l.fL.isEmpty
def wfI(i:Qi):Bool:=if i.fFrom=[] then i.fAt.isEmpty else zLn i.fLin
def plE(x:Q1):Bool:=decide (1≤x.fOp∧x.fOp≤18∧(x.fOp=1∨(x.fVal.fN=0∧x.fVal.fD=0))∧(x.fOp=1∨x.fOp=12∨x.fType=zT)∧(x.fOp=2∨zLn x.fLin=true)∧(x.fOp=3∨(x.fName=[]∧x.fIdx=[])))&&x.fIdx.all wfI
def naE(x:Q1):Bool:=(x.fOp !=3 || nm x.fName)&&x.fIdx.all fun i=>i.fFrom==[] || nm i.fFrom
def NA(op:Int):Int:=if op=1∨op=2∨op=3 then 0 else if op=8∨op=12∨op=18 then 1 else if op=11 then 3 else 2
def isC(x:Q1):Bool:=decide (13≤x.fOp)&&decide (x.fOp≤18)
def GI(op i:Int):Bool:=(op==11&&i==0) || op==16 || op==17 || op==18
def raE(x:Q1):Bool:=decide ((x.fArgs.length:Int)=NA x.fOp∧x.fIdx.length≤6)&&x.fIdx.all fun i=>decide (i.fAt.length≤6)
def argG(op:Int):Int→List Qb→Bool
 |_,[]=>true
 |i,a::t=>(isC a.f==GI op i)&&argG op (i+1) t
def tyE(x:Q1):Bool:=(!(decide (x.fOp=1∨x.fOp=12)) || tyOK x.fType)&&argG x.fOp 0 x.fArgs
def foE(x:Q1):Bool:=(x.fOp !=1 || vlOK x.fType x.fVal)&& (Uc x).all Jg
def V0(x:Q1):Int:=if plE x=false then 5 else if naE x=false then 7 else if raE x=false then 11 else if tyE x=false then 10 else if foE x=false then 1 else 0
def fstE{α:Type}(f:α→Int):List α→Int
 | []=>0
 |a::t=>if f a≠0 then f a else fstE f t
def maxL(l:List Nat):Nat:=l.foldr max 0
def dpE:Qb→Nat
 | .mk x=>1+maxL (x.fArgs.attach.map fun a=>dpE a.1)
 termination_by e=>SizeOf.sizeOf e
 decreasing_by exact Qb.lt a.2
def Ny(e:Q1):Int:=if 40<dpE (.mk e) then 13 else if 2000< (Z2 (.mk e)).length then 2 else fstE (fun y=>V0 y.f) (Z2 (.mk e))
def XK(a3:List Q9)(a4:Str):Option Q9:=a3.find? fun b=>b.fName==a4
def zBuf:Q9:=Q9.mk [] (Q6.mk (0:Int) (0:Int) (0:Int) (0:Int) (0:Int)) [] (0:Int)
def Ke:List Q9→List Q9→Int
 |_,[]=>0
 |p,b::t=>if nm b.fName=false then 7 else if p.any (fun x=>x.fName==b.fName) then 8 else if tyOK b.fType=false then 10 else if Kf b.fDims≠0 then Kf b.fDims else if b.fUse<1∨3<b.fUse then 1 else Ke (p++[b]) t
def inS(sc:List Str)(l:gLin):Bool:=l.fL.all fun m=>sc.contains m.fName
def KI(n:Qd):List Qi→Int
 | []=>0
 |i::t=>if i.fFrom=[] then KI n t else match XK n.fBufs i.fFrom with
  |none=>9
  |some b=>if b.fType.fKind≠3 then 10 else if b.fDims.length≠i.fAt.length then 11 else KI n t
def VZ(n:Qd)(sc:List Str)(x:Q1):Int:=if(Uc x).all (inS sc)=false then 9 else if x.fOp≠3 then 0 else match XK n.fBufs x.fName with
 |none=>9
 |some b=>if b.fDims.length≠x.fIdx.length then 11 else KI n x.fIdx
def kd1(n:Qd)(x:Q1)(l:List (Q6×Int)):Q6×Int:=
 if l.any (fun r=>r.2 !=0) then(zT,10) else if x.fOp=1∨x.fOp=12 then(x.fType,0) else if x.fOp=2 then(⟨3,0,0,0,0⟩,0)
 else if x.fOp=3 then(((XK n.fBufs x.fName).getD zBuf).fType,0) else if x.fOp=16∨x.fOp=17∨x.fOp=18 then(zT,0)
 else match l.reverse with
  | []=>(zT,10)
  | [a]=>(a.1,0)
  |a::b::_=>if b.1≠a.1 then(zT,10) else if isC x then(zT,0) else(a.1,0)
def kd(n:Qd):Qb→Q6×Int
 | .mk x=>kd1 n x (x.fArgs.attach.map fun a=>kd n a.1)
 termination_by e=>SizeOf.sizeOf e
 decreasing_by exact Qb.lt a.2
def JR(n:Qd)(sc:List Str)(x:Q1):Q6×Int:=
 if Ny x≠0 then(zT,Ny x) else if fstE (fun y=>VZ n sc y.f) (Z2 (.mk x))≠0 then(zT,fstE (fun y=>VZ n sc y.f) (Z2 (.mk x))) else kd n (.mk x)
def isZE(x:Q1):Bool:=decide (x.fOp=0∧x.fName=[]∧x.fVal.fN=0∧x.fVal.fD=0∧x.fType=zT∧zLn x.fLin=true∧x.fIdx.length=0∧x.fArgs.length=0)
def plS(x:Qw):Bool:=decide ((x.fOp=1∨x.fOp=2∨x.fOp=3∨x.fOp=4)∧(x.fOp=4→x.fName=[])∧(x.fOp≠1→x.fMany=0∧x.fMark=0)∧(x.fOp≠3→x.fFold=0)∧(¬(x.fOp=2∨x.fOp=3)→x.fIdx.length=0)∧(x.fOp=1→isZE x.fExpr=true)∧(x.fOp=2∨x.fOp=3→x.fBody.length=0))
def rdE(x:Qw):Q1:=KG.mk (3:Int) x.fName (gVal.mk (0:Int) (0:Int)) (Q6.mk (0:Int) (0:Int) (0:Int) (0:Int) (0:Int)) (gLin.mk (0:Int) []) x.fIdx []
def L2(n:Qd)(sc:List Str)(x:Qw):Int:=
 if(JR n sc (rdE x)).2≠0 then(JR n sc (rdE x)).2
 else if((XK n.fBufs x.fName).getD zBuf).fUse=1∨(x.fOp=3∧(x.fFold<1∨4<x.fFold)) then 1
 else if(JR n sc x.fExpr).2≠0 then(JR n sc x.fExpr).2
 else if isC x.fExpr=true∨(JR n sc x.fExpr).1≠((XK n.fBufs x.fName).getD zBuf).fType then 10 else 0
def Ei(n:Qd)(a3:List Str)(x:Qw):Int:=
 if nm x.fName=false then 7 else if(XK n.fBufs x.fName).isSome∨a3.contains x.fName=true then 8 else if x.fMany<1∨65536<x.fMany∨x.fMark<0∨3<x.fMark then 1 else 0
def UE(n:Qd)(sc a3:List Str)(x:Qw):Int:=
 if plS x=false then 5 else if x.fOp=1 then Ei n a3 x
 else if x.fOp=4 then(if(JR n sc x.fExpr).2≠0 then(JR n sc x.fExpr).2 else if isC x.fExpr then 0 else 10)
 else L2 n sc x
abbrev Fl:=List Str×List Int×Int
def bdL(n:Qd)(sc:List Str)(a3:List Int):List (Qw× (List Str→List Str→List Int→Fl))→Int→List Str→Fl
 | [],_,used=>(used,[],0)
 | (x,g)::t,i,used=>
  if UE n sc used x≠0 then([],a3++[i],UE n sc used x)
  else if x.fOp=1 then(if(g (sc++[x.fName]) (used++[x.fName]) (a3++[i])).2.2≠0 then g (sc++[x.fName]) (used++[x.fName]) (a3++[i]) else bdL n sc a3 t (i+1) (g (sc++[x.fName]) (used++[x.fName]) (a3++[i])).1)
  else(if(g sc used (a3++[i])).2.2≠0 then g sc used (a3++[i]) else bdL n sc a3 t (i+1) (g sc used (a3++[i])).1)
def bd(n:Qd):Qe→List Str→List Str→List Int→Fl
 | .mk x=>fun sc a3 a4=>bdL n sc a4 (x.fBody.attach.map fun a=>(a.1.f,bd n a.1)) 0 a3
 termination_by e=>SizeOf.sizeOf e
 decreasing_by exact Qe.lt a.2
def bdB(n:Qd)(sc:List Str)(a4:List Int)(l:List Qe)(a3:List Str):Fl:=bdL n sc a4 (l.map fun a=>(a.f,bd n a)) 0 a3
theorem bd_mk(n:Qd)(x:Qw)(sc a3:List Str)(a4:List Int):bd n (.mk x) sc a3 a4=bdB n sc a4 x.fBody a3:=by
 rw[bd];simp[bdB]
theorem bd_f(n:Qd)(s:Qe)(sc a3:List Str)(a4:List Int):bd n s sc a3 a4=bdB n sc a4 s.f.fBody a3:=by
 cases s with
 |mk x=>rw[bd_mk];rfl
def dp:Qe→Nat
 | .mk x=>1+maxL (x.fBody.attach.map fun a=>dp a.1)
 termination_by e=>SizeOf.sizeOf e
 decreasing_by exact Qe.lt a.2
def dpL(l:List Qe):Nat:=maxL (l.map dp)
def sz:Qe→Nat
 | .mk x=>1+(x.fBody.attach.map fun a=>sz a.1).sum
 termination_by e=>SizeOf.sizeOf e
 decreasing_by exact Qe.lt a.2
def szL(l:List Qe):Nat:=(l.map sz).sum
def vd(n:Qd):List Int×Int:=
 if 40<dpL n.fBody then([],13) else if 2000<szL n.fBody∨128<n.fBufs.length then([],2) else if Ke [] n.fBufs≠0 then([],Ke [] n.fBufs)
 else((bdB n [] [] n.fBody []).2.1,(bdB n [] [] n.fBody []).2.2)
end Go.Proofs.YtolcgikajjkjgaaGreatDoor
end
section
namespace Go.Proofs.YtolcgikajjkjgaaGreatDoor
open Go HY
set_option linter.unusedVariables false
set_option linter.unusedSimpArgs false
theorem bI{α β:Type}{c:Prop} [Decidable c] {x y:Option α} {f:α→Option β}:((if c then x else y)>>=f)=if c then x>>=f else y>>=f:=by split<;>rfl
theorem Ur(t:Q6):ZP t=some (if tyOK t=true then 0 else 10):=by
 unfold ZP M0 K6 tyOK;simp only[bS,bI,WY,Cc,beq_iff_eq,bne_iff_ne,Bool.and_eq_true,decide_eq_true_eq,Bool.true_and,Bool.and_true]
 grind
theorem HN(t:Q6):Ug t=some (tyOK t):=by
 unfold Ug tyOK;simp only[bS,beq_iff_eq,bne_iff_ne,Bool.and_eq_true,decide_eq_true_eq,Bool.true_and,Bool.and_true]
 grind
theorem W3(x:Q1):YU x=some (isC x):=by
 unfold YU isC
 grind
theorem Da(x:Q1):Xw x=some (isC x):=by
 unfold Xw isC
 grind
theorem Q0b(op:Int):Dk op=some (NA op):=by
 unfold Dk NA;simp only[bS,beq_iff_eq]
 grind
theorem r_args(op:Int):WC op=some (NA op):=by
 unfold WC NA;simp only[bS,beq_iff_eq]
 grind
theorem Q0d(op i:Int):Vf op i=some (GI op i):=by
 unfold Vf GI;simp only[bS,beq_iff_eq]
 grind
theorem r_wants(op i:Int):CX op i=some (GI op i):=by
 unfold CX GI;simp only[bS,beq_iff_eq]
 grind
theorem wrap32(c:UInt8):IntKind.i32.wrap (c.toNat:Int)=c.toNat:=by
 have:=c.toNat_lt;rw[IntKind.wrap_i32];omega
theorem Pt(c:UInt8):Gy (c.toNat:Int)=some (low c):=by
 unfold Gy low;grind
theorem Q2t(c:UInt8):DX (c.toNat:Int)=some (tl c):=by
 unfold DX NY tl;rw[Pt];simp only[bS];grind
def spn(q:UInt8→Bool):Str→Nat
 | []=>0
 |c::t=>if q c then spn q t+1 else 0
theorem By(q:UInt8→Bool):∀s:Str,(spn q s=s.length)=(s.all q=true)∧spn q s≤s.length
 | []=>by simp[spn]
 |c::t=>by
  have ih:=By q t;unfold spn;cases hq:q c with
  |true=>simp only[if_true,List.length_cons,List.all_cons,hq,Bool.true_and,Nat.add_right_cancel_iff];exact⟨ih.1,by omega⟩
  |false=>simp[hq]
theorem Ad(s:Str)(hl:s.length≤1048576):∀(t p:Str),s=p++t→ZY s p.length=some ((p.length:Int)+spn tl t)
 | [],p,e=>by
  rw[ZY];subst e;simp[spn,bS]
 |c::t,p,e=>by
  have ih:=Ad s hl t (p++[c]) (by rw[e];simp)
  have a3:(p.length:Int)<s.length:=by rw[e];simp;omega
  rw[ZY];simp only[bS];rw[if_pos a3,Yi e,bS,wrap32,Q2t,bS];unfold spn;cases hc:tl c with
  |true=>
   simp only[WY,bS];rw[ZA (by omega) a3 (by omega)]
   rw[show((p++[c]).length:Int)=(p.length:Int)+1 by simp] at ih
   rw[ih];simp;omega
  |false=>simp[bS]
theorem p_span(s:Str)(hl:s.length≤1048576):GM s=some (spn tl s:Int):=by
 unfold GM;simp only[bS];have e:ZY s 0=_:=Ad s hl s [] rfl;rw[e];simp[bS]
theorem Q08(l:List Str)(s:Str)(hl:l.length≤4611686018427387904):∃r,Zo l s l.length 0=some r∧(match r with | .inl _=>l.contains s=false | .inr k=>0≤k∧l.contains s=true):=by
 have key:∀(t p:List Str),l=p++t→∃r,Zo l s l.length p.length=some r∧(match r with | .inl _=>t.contains s=false | .inr k=>0≤k∧t.contains s=true):=by
  intro t
  induction t with
  |nil=>intro p e;subst e;exact⟨_,by rw[Zo];simp;rfl,rfl⟩
  |cons c t ih=>
   intro p e;have a3:(p.length:Int)<l.length:=by rw[e];simp;omega
   rw[Zo,if_pos a3,Yi e,bS,List.contains_cons];cases hc:s==c with
   |true=>exact⟨_,rfl,by omega,rfl⟩
   |false=>
    rw[if_neg (by simp),ZA (by omega) a3 hl]
    have:=ih (p++[c]) (by rw[e];simp)
    rw[show((p++[c]).length:Int)=(p.length:Int)+1 by simp] at this
    simpa using this
 exact key l [] rfl
theorem Iu(l:List Str)(s:Str)(hl:l.length≤4611686018427387904):XP l s=some (l.contains s):=by
 obtain⟨r,e,h⟩:=Q08 l s hl;unfold XP GA;simp only[bS];rw[e];cases r with
 |inl a=>simp only[bS];rw[h];rfl
 |inr k=>simp only[bS];rw[h.2];simp[h.1]
theorem kwL_kw:kwL=kw:=rfl
theorem Iv(s:Str):VU s=some (nm s):=by
 unfold VU nm;cases s with
 |nil=>simp
 |cons c t=>
  simp only[show(!(c::t==([]:Str)))=true from rfl,if_true];by_cases h2:((c::t).length:Int)≤16
  ·rw[if_pos h2,show ix (c::t) 0=some c from rfl,bS,wrap32,Pt,bS,decide_eq_true (p:=1≤((c::t).length:Int)) (by simp;omega),decide_eq_true h2]
   simp only[Bool.true_and];cases hc:low c with
   |false=>simp
   |true=>
    rw[if_pos rfl,p_span _ (by omega),bS]
    obtain⟨h3,h4⟩:=By tl (c::t);by_cases h5:spn tl (c::t)=(c::t).length
    ·rw[if_pos (by simp[h5])]
     unfold Cp W7;rw[bS,Iu _ _ (by decide),bS,kwL_kw,bS,show(c::t).all tl=true from h3▸h5]
     simp
    ·rw[if_neg (by simpa using (by omega:¬((spn tl (c::t):Int)=(c::t).length)))]
     have:(c::t).all tl=false:=by
      cases h:(c::t).all tl with
      |true=>exact absurd (h3.symm▸h:_) h5
      |false=>rfl
     rw[this];simp
  ·rw[if_neg h2,decide_eq_false (p:=((c::t).length:Int)≤16) h2];simp
theorem idxF{α:Type}{l:List α}{q:α→Bool}{L:Int→Option (Unit ⊕ Int)}{p:α→Option Bool}(hl:l.length≤4611686018427387904)
  (hL:∀i,L i=if i< (l.length:Int) then ix l i>>=fun v=>p v>>=fun b=>if b=true then some (.inr i) else L (wr (i+1)) else some (.inl ()))
  (hp:∀x∈l,p x=some (q x)):∃r,L 0=some r∧(match r with | .inl _=>l.any q=false | .inr k=>0≤k∧l.any q=true):=by
 have key:∀(t p:List α),l=p++t→∃r,L p.length=some r∧(match r with | .inl _=>t.any q=false | .inr k=>0≤k∧t.any q=true):=by
  intro t
  induction t with
  |nil=>intro p e;subst e;exact⟨_,by rw[hL];simp;rfl,rfl⟩
  |cons c t ih=>
   intro p e;have a3:(p.length:Int)<l.length:=by rw[e];simp;omega
   rw[hL,if_pos a3,Yi e,bS,hp c (by rw[e];simp),bS,List.any_cons]
   cases hc:q c with
   |true=>exact⟨_,rfl,by omega,rfl⟩
   |false=>
    rw[if_neg (by simp),ZA (by omega) a3 hl]
    have:=ih (p++[c]) (by rw[e];simp)
    rw[show((p++[c]).length:Int)=(p.length:Int)+1 by simp] at this
    simpa using this
 exact key l [] rfl
theorem LD{α:Type}(q:α→Bool)(l:List α):(!(l.any fun x=> !(q x)))=l.all q:=by
 induction l with
 |nil=>rfl
 |cons a t ih=>rw[List.any_cons,List.all_cons,← ih];cases q a<;>simp
theorem Ps(l:gLin):D4 l=some (zLn l):=by
 unfold D4 zLn;cases l with
 |mk k t=>cases t<;>simp[bS]<;>grind
theorem Pv(i:Qi):Gk i=some (wfI i):=by
 unfold Gk wfI;rw[Ps];by_cases h:i.fFrom=[]
 ·simp only[h,bS,if_true,beq_self_eq_true];cases i.fAt with
  |nil=>rfl
  |cons a t=>simp;omega
 ·simp[h,bS]
theorem p_cf1(l:List Qi)(hl:l.length≤4611686018427387904):Xg l=some (l.any fun i=> !(wfI i)):=by
 obtain⟨r,e,h⟩:=idxF (l:=l) (q:=fun i=> !(wfI i)) (L:=QT l l.length) hl (fun i=>by rw[QT]) (fun x _=>by unfold Wt;rw[Pv,bS])
 unfold Xg KD;simp only[bS];rw[e];cases r with
 |inl a=>simp only[bS];rw[h];rfl
 |inr k=>simp only[bS];rw[h.2];simp[h.1]
theorem p_cf2(l:List Qi)(hl:l.length≤4611686018427387904):Xh l=some (l.any fun i=> !(i.fFrom==[] || nm i.fFrom)):=by
 obtain⟨r,e,h⟩:=idxF (l:=l) (q:=fun i=> !(i.fFrom==[] || nm i.fFrom)) (L:=QU l l.length) hl (fun i=>by rw[QU]) (fun x _=>by unfold Nc;rw[Iv];cases x.fFrom==[]<;>rfl)
 unfold Xh KE;simp only[bS];rw[e];cases r with
 |inl a=>simp only[bS];rw[h];rfl
 |inr k=>simp only[bS];rw[h.2];simp[h.1]
theorem p_cf3(l:List Qi)(hl:l.length≤4611686018427387904):Xi l=some (l.any fun i=> !(decide (i.fAt.length≤6))):=by
 obtain⟨r,e,h⟩:=idxF (l:=l) (q:=fun i=> !(decide (i.fAt.length≤6))) (L:=QV l l.length) hl (fun i=>by rw[QV]) (fun x _=>by unfold NW;simp only[bS];congr 1;rw[Bool.eq_iff_iff];simp;omega)
 unfold Xi KF;simp only[bS];rw[e];cases r with
 |inl a=>simp only[bS];rw[h];rfl
 |inr k=>simp only[bS];rw[h.2];simp[h.1]
theorem plE_eq(x:Q1):plE x=(decide (1≤x.fOp∧x.fOp≤18)&& ((x.fOp==1 || (x.fVal.fN==0&& (x.fVal.fD==0&&true)))&& ((x.fOp==1 || x.fOp==12 || (x.fType.fKind==0&& (x.fType.fBits==0&& (x.fType.fFrac==0&& (x.fType.fRound==0&& (x.fType.fOver==0&&true))))))&& ((x.fOp==2 || zLn x.fLin)&& ((x.fOp==3 || (x.fName==[]&&decide (¬(0:Int)<x.fIdx.length)))&&x.fIdx.all wfI))))):=by
 unfold plE;have e1:x.fType=zT↔(x.fType.fKind=0∧x.fType.fBits=0∧x.fType.fFrac=0∧x.fType.fRound=0∧x.fType.fOver=0):=by
  cases x.fType;simp[zT]
 have e2:x.fIdx=[]↔¬(0:Int)<x.fIdx.length:=by cases x.fIdx<;>simp
 rw[Bool.eq_iff_iff];simp only[Bool.and_eq_true,decide_eq_true_eq,Bool.or_eq_true,beq_iff_eq,Bool.and_true];rw[e1,e2];constructor
 ·rintro⟨⟨a,b,c,d,e,f⟩,g⟩;exact⟨⟨a,b⟩,c,by rcases d with d | d | d<;>simp[d],e,f,g⟩
 ·rintro⟨⟨a,b⟩,c,d,e,f,g⟩;exact⟨⟨a,b,c,by rcases d with(d | d) | d<;>simp[d],e,f⟩,g⟩
theorem Q2w(x:Q1)(hl:x.fIdx.length≤4611686018427387904):CS x=some (plE x):=by
 rw[plE_eq];unfold CS;rw[p_cf1 _ hl,Ps];simp only[bS,bI,LD,WY,Cc,if_true,if_false,Bool.false_eq_true];generalize (x.fVal.fN==0&& (x.fVal.fD==0&&true))=V;generalize (x.fType.fKind==0&& (x.fType.fBits==0&& (x.fType.fFrac==0&& (x.fType.fRound==0&& (x.fType.fOver==0&&true)))))=T;generalize zLn x.fLin=Z;generalize (x.fName==[])=N;generalize x.fIdx.all wfI=A;generalize (x.fIdx.length:Int)=I;generalize x.fOp=op
 cases V<;>cases T<;>cases Z<;>cases N<;>grind
theorem p_names(x:Q1)(hl:x.fIdx.length≤4611686018427387904):Ws x=some (naE x):=by
 unfold Ws naE;rw[p_cf2 _ hl,Iv];simp only[bS,bI,LD,WY,Cc,beq_iff_eq]
 grind
theorem p_rank(x:Q1)(hl:x.fIdx.length≤4611686018427387904):Ns x=some (raE x):=by
 unfold Ns raE;rw[p_cf3 _ hl,Q0b];simp only[bS,bI,LD,WY,Cc,bne_iff_ne]
 grind
end Go.Proofs.YtolcgikajjkjgaaGreatDoor
end
section
namespace Go.Proofs.YtolcgikajjkjgaaGreatDoor
open Go HY
set_option linter.unusedVariables false
set_option linter.unusedSimpArgs false
theorem Q0e(d:List Int)(hl:d.length≤1048576):X1 d d.length 0=some (if d.any (fun v=>decide (v<1)) then .inr 1 else .inl ()):=by
 refine D9 (F:=fun i=>X1 d d.length i) (l:=d) (fun t=>if t.any (fun v=>decide (v<1)) then .inr 1 else .inl ()) ?_ ?_
 ·rw[X1];simp
 ·intro i y t h0 h1 a3 ih;rw[X1,if_pos h1,a3];simp only[bS,UF h0 h1 (by omega),ih,List.any_cons]
  by_cases h2:y<1<;>simp[h2]
theorem Ev{n v:Int}(hn:1≤n):((4096:Int).tdiv n<v)↔4096<n*v:=by
 rw[Int.tdiv_eq_ediv_of_nonneg (by omega),Int.ediv_lt_iff_lt_mul (by omega),Int.mul_comm]
theorem BA{n:Int}(hn:1≤n):0≤(4096:Int).tdiv n∧(4096:Int).tdiv n≤4096:=by
 rw[Int.tdiv_eq_ediv_of_nonneg (by omega)]
 exact⟨Int.ediv_nonneg (by omega) (by omega),Int.ediv_le_self _ (by omega)⟩
theorem OH(d:List Int)(hl:d.length≤1048576)(hd:∀v∈d,1≤v):ZO 1 d d.length 0=some (if(Ko 1 d).isSome then .inl () else .inr 2):=by
 refine YQ (F:=fun n i=>ZO n d d.length i) (l:=d) (fun n t=>1≤n∧n≤4096) (fun n t=>if(Ko n t).isSome then .inl () else .inr 2) ?_ ?_ 1 (by omega)
 ·intro n _;rw[ZO];simp[Ko]
 ·intro i y t n h0 h1 hm a4 hI ih;have hy:=hd y hm;have h4:=BA hI.1;rw[ZO,if_pos h1,a4];simp only[bS,UF h0 h1 (by omega)]
  rw[if_pos (show n≠0 by omega),Zw (by omega)]
  by_cases h2:4096<n*y;·rw[if_pos ((Ev hI.1).2 h2),Lf (.inr h2)];rfl
  ·have hp:n≤n*y:=by
    have:=Int.mul_le_mul_of_nonneg_left hy (show 0≤n by omega);rwa [Int.mul_one] at this
   rw[if_neg (fun h=>h2 ((Ev hI.1).1 h)),RQ (by omega),Zw (by omega)]
   exact ih _ (by omega)
theorem SJ(d:List Int):VW d=some (Kf d):=by
 unfold VW Kf;simp only[bS];by_cases h6:(6:Int)<d.length;·rw[if_pos h6,if_pos (by omega)]
 ·have hl:d.length≤1048576:=by omega
  rw[if_neg h6,if_neg (by omega),Q0e d hl]
  by_cases ha:d.any (fun v=>decide (v<1))=true
  ·rw[if_pos ha,if_pos ha];rfl
  ·rw[if_neg ha,bS,if_neg ha];simp only;rw[OH d hl (fun v hv=>by
    have:¬v<1:=fun h=>ha (List.any_eq_true.2 ⟨v,hv,by simpa using h⟩)
    omega)]
   cases hs:(Ko 1 d).isSome<;>simp[bS]
theorem Q0l(d:List Int)(hl:d.length≤1048576):ZZ d 0=some (if d.any (fun v=>decide (v<1)) then .inr 1 else .inl ()):=by
 refine D9 (F:=fun i=>ZZ d i) (l:=d) (fun t=>if t.any (fun v=>decide (v<1)) then .inr 1 else .inl ()) ?_ ?_
 ·rw[ZZ];simp[bS]
 ·intro i y t h0 h1 a3 ih;rw[ZZ,bS,if_pos h1,a3];simp only[bS,UF h0 h1 (by omega),ih,List.any_cons]
  by_cases h2:y<1<;>simp[h2]
theorem ON(d:List Int)(hl:d.length≤1048576)(hd:∀v∈d,1≤v):ZN d 1 0=some (if(Ko 1 d).isSome then .inl () else .inr 2):=by
 refine YQ (F:=fun n i=>ZN d n i) (l:=d) (fun n t=>1≤n∧n≤4096) (fun n t=>if(Ko n t).isSome then .inl () else .inr 2) ?_ ?_ 1 (by omega)
 ·intro n _;rw[ZN];simp[Ko,bS]
 ·intro i y t n h0 h1 hm a3 hI ih;have hy:=hd y hm;rw[ZN,bS,if_pos h1,a3];simp only[bS,UF h0 h1 (by omega)]
  have hp:n≤n*y:=by
   have:=Int.mul_le_mul_of_nonneg_left hy (show 0≤n by omega);rwa [Int.mul_one] at this
  have hq:y≤n*y:=by
   have:=Int.mul_le_mul_of_nonneg_right hI.1 (show 0≤y by omega);rwa [Int.one_mul] at this
  by_cases h3:4096<y;·rw[if_pos h3,Lf (.inr (by omega))];rfl
  ·have hr:n*y≤16777216:=by
    have:=Int.mul_le_mul hI.2 (show y≤4096 by omega) (by omega) (by omega);omega
   rw[if_neg h3,Zw (by omega)]
   by_cases h2:4096<n*y;·rw[if_pos h2,Lf (.inr h2)];rfl
   ·rw[if_neg h2,RQ (by omega)]
    exact ih _ (by omega)
theorem r_shape(d:List Int):GO d=some (Kf d):=by
 unfold GO Kf;simp only[bS];by_cases h6:(6:Int)<d.length;·rw[if_pos h6,if_pos (by omega)]
 ·have hl:d.length≤1048576:=by omega
  rw[if_neg h6,if_neg (by omega),Q0l d hl]
  by_cases ha:d.any (fun v=>decide (v<1))=true
  ·rw[if_pos ha,if_pos ha];rfl
  ·rw[if_neg ha,bS,if_neg ha];simp only;rw[ON d hl (fun v hv=>by
    have:¬v<1:=fun h=>ha (List.any_eq_true.2 ⟨v,hv,by simpa using h⟩)
    omega)]
   cases hs:(Ko 1 d).isSome<;>simp[bS]
theorem pw2(b:Int)(h:2≤b∧b≤31):1≤(2:Int)^ (b - 1).toNat∧(2:Int)^ (b - 1).toNat≤1073741824∧min (b - 1).toNat 64=(b - 1).toNat:=by
 obtain⟨k,rfl⟩:∃k:Nat,b=k+1:=⟨(b - 1).toNat,by omega⟩
 have hk:k≤30:=by omega
 rw[show((k:Int)+1 - 1).toNat=k by omega]
 refine⟨?_,?_,by omega⟩
 ·have:1≤(2:Nat)^k:=Nat.one_le_two_pow;have e:((2^k:Nat):Int)=(2:Int)^k:=by push_cast;rfl
  rw[← e];omega
 ·have:(2:Nat)^k≤2^30:=Nat.pow_le_pow_right (by decide) hk
  have e:((2^k:Nat):Int)=(2:Int)^k:=by push_cast;rfl
  rw[← e];omega
theorem PV{t:Q6}(h:tyOK t=true)(hk:t.fKind=2):2≤t.fBits∧t.fBits≤31:=by
 unfold tyOK at h;rw[if_neg (by omega)] at h
 have:=of_decide_eq_true h;exact⟨this.2.1,this.2.2.1⟩
theorem ET(t:Q6)(hk:t.fKind=2):K6 t=some (if tyOK t=true then 0 else 10):=by
 unfold K6 tyOK;simp only[bS,bI,WY,Cc,beq_iff_eq,bne_iff_ne,Bool.and_eq_true,decide_eq_true_eq,Bool.true_and,Bool.and_true,hk]
 grind
theorem gcd_L1(G:Int→Int→Option Int)(hG:∀a b,G a b=if(b !=(0:Int))=true then(if b≠(0:Int) then some (a.tmod b:Int)>>=fun v=>G b v else none) else some a):∀(b a:Nat),G a b=some (Nat.gcd a b:Int):=by
 intro b
 induction b using Nat.strongRecOn with
 |ind b ih=>
  intro a;rw[hG];by_cases hb:b=0;·subst hb;simp
  ·have h2:(b:Int)≠0:=by omega
   rw[if_pos (by simpa using h2),if_pos h2,bS]
   rw[show((a:Int).tmod (b:Int))=((a%b:Nat):Int) from rfl,ih (a%b) (Nat.mod_lt _ (by omega)) b,Nat.gcd_comm b,Nat.gcd_comm a b,Nat.gcd_rec b a]
theorem OG(v:gVal):Wv v=some (decide (-2147483647≤v.fN∧v.fN≤2147483647∧1≤v.fD∧v.fD≤2147483647∧Nat.gcd v.fN.natAbs v.fD.natAbs=1)):=by
 unfold Wv Nd W5 I4;by_cases h1:(1:Int)≤v.fD
 ·by_cases h2:v.fD≤2147483647
  ·rw[if_pos h1,if_pos h2];by_cases h3:(-2147483647:Int)≤v.fN
   ·by_cases h4:v.fN≤2147483647
    ·have e1:(if v.fN<0 then some (w6 (0 - w6 v.fN)) else some (w6 v.fN))=some ((v.fN.natAbs:Nat):Int):=by
      split;·unfold w6;rw[IntKind.wrap_u64,IntKind.wrap_u64];congr 1;omega
      ·unfold w6;rw[IntKind.wrap_u64];congr 1;omega
     have e2:w6 v.fD=((v.fD.natAbs:Nat):Int):=by unfold w6;rw[IntKind.wrap_u64];omega
     rw[if_pos h3,bS,e1,bS,e2];simp only[decide_eq_true h4,if_true,bS];rw[gcd_L1 JY (fun a b=>by rw[JY]),bS,bS]
     congr 1;rw[Bool.eq_iff_iff,beq_iff_eq,decide_eq_true_iff];constructor;·intro h;exact⟨h3,h4,h1,h2,by omega⟩
     ·intro h;omega
    ·rw[if_pos h3,bS];simp[h4]
   ·rw[if_neg h3,bS];simp[h3]
  ·rw[if_pos h1,if_neg h2];simp[h2]
 ·rw[if_neg h1];simp[h1]
theorem Bn(t:Q6)(v:gVal)(h:tyOK t=true):D7 t v=some (vlOK t v):=by
 unfold D7 vlOK;rw[Ur,if_pos h,bS];simp only[bne_self_eq_false,Bool.false_eq_true,if_false,beq_iff_eq];by_cases h2:t.fKind=2
 ·rw[if_pos h2,if_pos h2];obtain⟨b1,b2⟩:=PV h h2;obtain⟨c1,c2,c3⟩:=pw2 _ ⟨b1,b2⟩;unfold NX Ng Nf W0;rw[ET t h2,if_pos h];have w1:wr (t.fBits - 1)=t.fBits - 1:=Zw (by omega)
  have w2:w6 (t.fBits - 1)=t.fBits - 1:=by unfold w6;rw[IntKind.wrap_u64];omega
  simp only[bS,w1,w2,c3,Int.one_mul,beq_self_eq_true,if_true,decide_eq_true b2];rw[if_pos b1];generalize (2:Int)^ (t.fBits - 1).toNat=P at*;simp only[bS,if_true];simp only[if_pos (show(0:Int)≤t.fBits - 1 by omega),bS]
  rw[Zw (n:=P) (by omega),Zw (n:=0 - P) (by omega),Zw (n:=P - 1) (by omega)]
  simp only[beq_iff_eq]
  grind
 ·rw[if_neg h2,if_neg h2];by_cases h3:t.fKind=3
  ·rw[if_pos h3];simp only[h3,if_true];unfold M1
   grind
  ·rw[if_neg h3,OG,bS];simp only[h3,if_false]
theorem r_Val(t:Q6)(v:gVal)(h:tyOK t=true):Wq t v=some (vlOK t v):=by
 unfold Wq vlOK I3;simp only[beq_iff_eq];by_cases h2:t.fKind=2
 ·rw[if_pos h2,if_pos h2];obtain⟨b1,b2⟩:=PV h h2;obtain⟨c1,c2,c3⟩:=pw2 _ ⟨b1,b2⟩;have w1:wr (t.fBits - 1)=t.fBits - 1:=Zw (by omega)
  simp only[bS,w1,c3,Int.one_mul];generalize (2:Int)^ (t.fBits - 1).toNat=P at*;rw[if_pos (by omega),Zw (n:=P) (by omega),Zw (by omega)]
  grind
 ·rw[if_neg h2,if_neg h2];simp only[bS];by_cases a1:(2147483647:Int)<v.fN;·rw[if_pos a1,bS,if_pos rfl];congr 1;symm;rw[decide_eq_false_iff_not];omega
  rw[if_neg a1];by_cases a2:v.fN< -2147483647;·rw[if_pos a2,bS,if_pos rfl];congr 1;symm;rw[decide_eq_false_iff_not];omega
  rw[if_neg a2];by_cases a3:v.fD<1;·rw[if_pos a3,bS,if_pos rfl];congr 1;symm;rw[decide_eq_false_iff_not];omega
  rw[if_neg a3];by_cases a4:(2147483647:Int)<v.fD;·rw[if_pos a4,bS,if_pos rfl];congr 1;symm;rw[decide_eq_false_iff_not];omega
  rw[if_neg a4,bS,if_neg (by simp)]
  by_cases h3:t.fKind=3;·rw[if_pos h3];simp only[h3,if_true];congr 1;rw[Bool.eq_iff_iff,beq_iff_eq,decide_eq_true_iff];constructor<;>intro h<;>first | exact⟨by omega,by omega,by omega,by omega,h⟩ | exact h.2.2.2.2
  ·rw[if_neg h3];simp only[h3,if_false,if_true];have e1:max v.fN (wr (0 - v.fN))=((v.fN.natAbs:Nat):Int):=by rw[Zw (by omega)];omega
   have e2:v.fD=((v.fD.natAbs:Nat):Int):=by omega
   rw[e1]
   conv=>lhs;rw[e2]
   rw[gcd_L1 JX (fun a b=>by rw[JX]),bS,bS]
   congr 1;rw[Bool.eq_iff_iff,beq_iff_eq,decide_eq_true_iff];constructor;·intro h;exact⟨by omega,by omega,by omega,by omega,by omega⟩
   ·intro h;omega
end Go.Proofs.YtolcgikajjkjgaaGreatDoor
end
section
namespace Go.Proofs.YtolcgikajjkjgaaGreatDoor
open Go HY
set_option linter.unusedVariables false
set_option linter.unusedSimpArgs false
theorem Mm{α β:Type}{l:List α}{q:α→Bool}{L:Int→Option (Unit ⊕ β)}{e:β}(hl:l.length≤4611686018427387904)(h0:L l.length=some (.inl ()))
    (h1:∀(i:Int) (x:α),0≤i→i<l.length→x∈l→ix l i=some x→L i=if q x=true then L (wr (i+1)) else some (.inr e)):L 0=some (if l.all q then .inl () else .inr e):=by
  have key:∀(t p:List α),l=p++t→L p.length=some (if t.all q then .inl () else .inr e):=by
    intro t
    induction t with
    | nil => intro p e1; have : p.length = l.length := by rw [e1]; simp
             rw[this,h0];rfl
    |cons c t ih=>
      intro p e1;have a3:(p.length:Int)<l.length:=by rw[e1];simp;omega
      rw[h1 p.length c (by omega) a3 (by rw[e1];simp) (Yi e1),ZA (by omega) a3 hl,List.all_cons]
      have:=ih (p++[c]) (by rw[e1];simp)
      rw[show((p++[c]).length:Int)=(p.length:Int)+1 by simp] at this
      rw[this];cases q c<;>simp
  exact key l [] rfl
theorem r_zero(l:gLin):(if(l.fK !=(0:Int))=true then some true else some (List.length l.fL:Int)>>=fun v=>if(0:Int)<v then some true else some false)=some (!(zLn l)):=by
 unfold zLn;cases l with
 |mk k t=>cases t<;>simp[bS]<;>grind
theorem Q0k(x:Q1)(hl:x.fIdx.length≤4611686018427387904):Y8 x 0=some (if x.fIdx.all wfI then .inl () else .inr false):=by
 refine Mm (L:=Y8 x) hl (by rw[Y8];simp[bS]) (fun i y h0 h1 hm a3=> ?_)
 rw[Y8,bS,if_pos h1,a3];simp only[bS,r_zero];have e:zLn y.fLin=((y.fLin.fK==0)&&decide (¬(0:Int)<y.fLin.fL.length)):=by
  unfold zLn;cases y.fLin.fL<;>simp
 unfold wfI;rw[e];have e2:y.fAt.isEmpty=decide (¬(0:Int)<y.fAt.length):=by cases y.fAt<;>simp
 rw[e2];by_cases hf:y.fFrom=[];·simp[hf,bI,bS];grind
 ·simp only[hf,bI,bS];cases hL:y.fLin.fL<;>simp[hL]<;>grind
theorem r_plain(x:Q1)(hl:x.fIdx.length≤4611686018427387904):CV x=some (plE x):=by
 rw[plE_eq];unfold CV;rw[Q0k x hl];have e:zLn x.fLin=((x.fLin.fK==0)&&decide (¬(0:Int)<x.fLin.fL.length)):=by
  unfold zLn;cases x.fLin.fL<;>simp
 rw[e];simp only[bS,bI,WY,Cc,if_true,if_false,Bool.false_eq_true];generalize (x.fVal.fN==0&& (x.fVal.fD==0&&true))=V;generalize (x.fType.fKind==0&& (x.fType.fBits==0&& (x.fType.fFrac==0&& (x.fType.fRound==0&& (x.fType.fOver==0&&true)))))=T;generalize (x.fName==[])=N;generalize x.fIdx.all wfI=A;generalize (x.fIdx.length:Int)=I;generalize x.fOp=op;generalize (x.fLin.fL.length:Int)=J;generalize x.fLin.fK=K
 cases V<;>cases T<;>cases N<;>cases A<;>simp only[bS,if_true,if_false,Bool.false_eq_true,Bool.not_true,Bool.not_false]<;>grind
theorem Q0i(x:Q1)(hl:x.fIdx.length≤4611686018427387904):Y6 x 0=some (if x.fIdx.all (fun i=>i.fFrom==[] || nm i.fFrom) then .inl () else .inr false):=by
 refine Mm (L:=Y6 x) hl (by rw[Y6];simp[bS]) (fun i y h0 h1 hm a3=> ?_)
 rw[Y6,bS,if_pos h1,bS,a3,bS];by_cases hf:y.fFrom=[];·simp[hf,bS]
 ·simp only[hf,bS,CN];cases nm y.fFrom<;>simp[hf,bS]
theorem r_named(x:Q1)(hl:x.fIdx.length≤4611686018427387904):CU x=some (naE x):=by
 unfold CU naE;rw[Q0i x hl,CN];by_cases h3:x.fOp=3;·cases hn:nm x.fName<;>cases hA:x.fIdx.all (fun i=>i.fFrom==[] || nm i.fFrom)<;>simp[h3,hn,hA,bS]
 ·cases hA:x.fIdx.all (fun i=>i.fFrom==[] || nm i.fFrom)<;>simp[h3,hA,bS]
theorem OM(x:Q1)(hl:x.fIdx.length≤4611686018427387904):XE x 0=some (if x.fIdx.all (fun i=>decide (i.fAt.length≤6)) then .inl () else .inr false):=by
 refine Mm (L:=XE x) hl (by rw[XE];simp[bS]) (fun i y h0 h1 hm a3=> ?_)
 rw[XE,bS,if_pos h1,a3,bS,bS];by_cases h6:(6:Int)<y.fAt.length;·rw[if_pos h6,decide_eq_false (by omega)];rfl
 ·rw[if_neg h6,decide_eq_true (by omega)];rfl
theorem Q35(x:Q1)(hl:x.fIdx.length≤4611686018427387904):C4 x=some (raE x):=by
 unfold C4 raE;rw[OM x hl,r_args];simp only[bS];generalize hA:(x.fIdx.all (fun i=>decide (i.fAt.length≤6)))=A
 by_cases h1:(x.fArgs.length:Int)=NA x.fOp
 ·by_cases h6:(6:Int)<x.fIdx.length
  ·have:¬x.fIdx.length≤6:=by omega
   simp[h1,h6,this,bS]
  ·have:x.fIdx.length≤6:=by omega
   cases A<;>simp[h1,h6,this,bS]
 ·simp[h1,bS]
theorem TG(x:Q1)(hl:x.fArgs.length≤4611686018427387904):∀(t p:List Qb),x.fArgs=p++t→YA x x.fArgs x.fArgs.length p.length=some (if argG x.fOp p.length t then .inl () else .inr false)
 | [],p,e=>by
  have:p.length=x.fArgs.length:=by rw[e];simp
  rw[YA,if_neg (by omega)];rfl
 |c::t,p,e=>by
  have ih:=TG x hl t (p++[c]) (by rw[e];simp)
  have a3:(p.length:Int)<x.fArgs.length:=by rw[e];simp;omega
  rw[YA,if_pos a3,Yi e,omS,bS,W3,bS,Q0d,bS,ZA (by omega) a3 hl]
  rw[show((p++[c]).length:Int)=(p.length:Int)+1 by simp] at ih
  rw[ih,argG];cases isC c.f<;>cases GI x.fOp p.length<;>simp
theorem p_types(x:Q1)(hl:x.fArgs.length≤4611686018427387904):Wu x=some (tyE x):=by
 unfold Wu tyE;have e:YA x x.fArgs x.fArgs.length 0=_:=TG x hl x.fArgs [] rfl;rw[Ur];simp only[bS,e,List.length_nil,Int.natCast_zero];cases ht:tyOK x.fType<;>cases hA:argG x.fOp 0 x.fArgs<;>by_cases h1:x.fOp=1<;>by_cases h2:x.fOp=12<;>simp[h1,h2,bS]
theorem TJ(x:Q1)(hl:x.fArgs.length≤4611686018427387904):∀(t p:List Qb),x.fArgs=p++t→Y9 x p.length=some (if argG x.fOp p.length t then .inl () else .inr false)
 | [],p,e=>by
  have:p.length=x.fArgs.length:=by rw[e];simp
  rw[Y9,bS,if_neg (by omega)];rfl
 |c::t,p,e=>by
  have ih:=TJ x hl t (p++[c]) (by rw[e];simp)
  have a3:(p.length:Int)<x.fArgs.length:=by rw[e];simp;omega
  rw[Y9,bS,if_pos a3,Yi e,omS,bS,Da,bS,r_wants,bS,ZA (by omega) a3 hl]
  rw[show((p++[c]).length:Int)=(p.length:Int)+1 by simp] at ih
  rw[ih,argG];cases isC c.f<;>cases GI x.fOp p.length<;>simp
theorem r_typed(x:Q1)(hl:x.fArgs.length≤4611686018427387904):CW x=some (tyE x):=by
 unfold CW tyE;have e:Y9 x 0=_:=TJ x hl x.fArgs [] rfl;rw[HN];simp only[bS,e,List.length_nil,Int.natCast_zero];cases ht:tyOK x.fType<;>cases hA:argG x.fOp 0 x.fArgs<;>by_cases h1:x.fOp=1<;>by_cases h2:x.fOp=12<;>simp[h1,h2,bS]
theorem IR:∀(l:List gLin),(∀a∈l,okL a)→Jk l=some (l.all Jg)
 | [],_=>rfl
 |a::t,h=>by
  rw[Jk,SP a (h a (by simp)),bS,IR t (fun b hb=>h b (by simp[hb])),List.all_cons]
  cases Jg a<;>simp
theorem Ac{x:Q1}(h1:okL x.fLin)(h2:∀i∈x.fIdx,okI i):∀a∈Uc x,okL a:=by
 intro a ha;unfold Uc at ha;rcases List.mem_cons.1 ha with rfl | ha
 ·exact h1
 ·obtain⟨l,hl,a3⟩:=List.mem_flatten.1 ha;obtain⟨i,hi,rfl⟩:=List.mem_map.1 hl;unfold Xj at a3;rcases List.mem_cons.1 a3 with rfl | a3
  ·exact(h2 i hi).1
  ·exact(h2 i hi).2.2 a a3
theorem OJ(x:Q1)(hx:okE (.mk x)):GK x=some (V0 x):=by
 obtain⟨h1,h2,h3,h4,h5⟩:=hx.of;have hI:x.fIdx.length≤4611686018427387904:=by omega
 have hA:x.fArgs.length≤4611686018427387904:=by omega
 have a4:∀i∈x.fIdx,i.fAt.length≤4611686018427387904:=fun i hi=>by have:=(h3 i hi).2.1;omega
 have hT:Jl x=some (if(Uc x).all Jg then 0 else 1):=by
  unfold Jl;rw[PO x ⟨hI,a4⟩,bS,IR _ (Ac h1 h3),bS]
 unfold GK V0;rw[Q2w x hI,p_names x hI,p_rank x hI,p_types x hA,hT];simp only[bS];cases plE x<;>simp only[Bool.false_eq_true,if_true,if_false,Bool.true_eq_false]
 cases naE x<;>simp only[Bool.false_eq_true,if_true,if_false,Bool.true_eq_false]
 cases raE x<;>simp only[Bool.false_eq_true,if_true,if_false,Bool.true_eq_false]
 cases ht:tyE x<;>simp only[Bool.false_eq_true,if_true,if_false,Bool.true_eq_false]
 unfold foE;by_cases ho:x.fOp=1
 ·have a5:tyOK x.fType=true:=by
   unfold tyE at ht;rw[Bool.and_eq_true] at ht;simpa[ho] using ht.1
  rw[if_pos (by simpa using ho),Bn _ _ a5,bS,ho]
  cases vlOK x.fType x.fVal<;>cases(Uc x).all Jg<;>simp
 ·rw[if_neg (by simpa using ho)]
  cases(Uc x).all Jg<;>simp[ho]
theorem OL(x:Q1)(k:Int)(i:Qi)(hk:ix x.fIdx k=some i)(hi:okI i):XD x k 0=some (if i.fAt.all Jg then .inl () else .inr false):=by
 refine Mm (L:=XD x k) (by have:=hi.2.1;omega) (by rw[XD,hk];simp[bS]) (fun j y h0 h1 hm a3=> ?_)
 rw[XD,hk,bS,bS,if_pos h1,bS,a3,bS,N3 y (hi.2.2 y hm),bS]
theorem OK(x:Q1)(hl:x.fIdx.length≤4611686018427387904)(h:∀i∈x.fIdx,okI i):XC x 0=some (if x.fIdx.all (fun i=>(Xj i).all Jg) then .inl () else .inr false):=by
 refine Mm (L:=XC x) hl (by rw[XC];simp[bS]) (fun i y h0 h1 hm a3=> ?_)
 rw[XC,bS,if_pos h1,a3,bS,N3 y.fLin (h y hm).1,bS];unfold Xj;rw[List.all_cons];cases hb:Jg y.fLin with
 |false=>simp
 |true=>
  rw[if_pos rfl,bS,OL x i y a3 (h y hm)];cases y.fAt.all Jg<;>simp[bS]
theorem Q11(x:Q1):(Uc x).all Jg=(Jg x.fLin&&x.fIdx.all (fun i=>(Xj i).all Jg)):=by
 unfold Uc;rw[List.all_cons];congr 1;generalize x.fIdx=l
 induction l with
 |nil=>rfl
 |cons a t ih=>simp only[List.map_cons,List.flatten_cons,List.all_append,List.all_cons];rw[ih]
theorem Q32(x:Q1)(hx:okE (.mk x))(ht:tyE x=true):C3 x=some (foE x):=by
 obtain⟨h1,h2,h3,h4,h5⟩:=hx.of;have hI:x.fIdx.length≤4611686018427387904:=by omega
 unfold C3 foE;rw[OK x hI h3,N3 x.fLin h1,Q11];by_cases ho:x.fOp=1
 ·have a4:tyOK x.fType=true:=by
   unfold tyE at ht;rw[Bool.and_eq_true] at ht;simpa[ho] using ht.1
  rw[r_Val _ _ a4];cases vlOK x.fType x.fVal<;>cases Jg x.fLin<;>cases x.fIdx.all (fun i=>(Xj i).all Jg)<;>simp[ho,bS]
 ·cases Jg x.fLin<;>cases x.fIdx.all (fun i=>(Xj i).all Jg)<;>simp[ho,bS]
end Go.Proofs.YtolcgikajjkjgaaGreatDoor
end
section
namespace Go.Proofs.YtolcgikajjkjgaaGreatDoor
open Go HY
set_option linter.unusedVariables false
set_option linter.unusedSimpArgs false
theorem Wn(x:Q1):Z2 (.mk x)= .mk x::Yj x.fArgs:=MR x
theorem HD(a:Nat)(l:List Nat):maxL (a::l)=max a (maxL l):=rfl
theorem FY(x:Q1):dpE (.mk x)=1+maxL (x.fArgs.map dpE):=by rw[dpE];simp
theorem Mq:∀e:Qb,1≤dpE e:=fun e=>by cases e;rw[FY];omega
theorem p_depth:∀e:Qb,okE e→∀m:Int,1≤m→m≤100→Jj e.f m=some (min (dpE e:Int) m):=Qb.ind fun x ih hx m h1 h2=>by
 obtain⟨_,_,_,hA,a4⟩:=hx.of;rw[Qb.f_mk,Jj];by_cases hm:m≤1;·rw[if_pos hm];have:=Mq (.mk x);congr 1;omega
 ·rw[if_neg hm,bS,bS];have hL:Yz m 1 x.fArgs x.fArgs.length 0=some (max 1 (min (1+maxL (x.fArgs.map dpE):Int) m)):=by
   refine YQ (F:=fun d i=>Yz m d x.fArgs x.fArgs.length i) (l:=x.fArgs) (fun d _=>1≤d∧d≤m) (fun d t=>max d (min (1+maxL (t.map dpE):Int) m)) ?_ ?_ 1 (by omega)
   ·intro d hd;rw[Yz,if_neg (by omega)]
    simp[maxL];omega
   ·intro i y t d h3 h4 a3 a5 hd a6;rw[Yz,if_pos h4,a5,omS,bS,Zw (n:=m - 1) (by omega),ih y a3 (a4 y a3) (m - 1) (by omega) (by omega),bS,if_pos rfl,ZA h3 h4 (by omega),Zw (by have:=Mq y;omega)]
    have hp:=Mq y;rw[a6 _ (by omega),List.map_cons,HD]
    congr 1;omega
  rw[hL,bS,FY];congr 1;omega
theorem r_depth:∀e:Qb,okE e→∀m:Int,1≤m→m≤100→Vt e.f m=some (min (dpE e:Int) m):=Qb.ind fun x ih hx m h1 h2=>by
 obtain⟨_,_,_,hA,a4⟩:=hx.of;rw[Qb.f_mk,Vt,bS];by_cases hm:m≤1
 ·rw[Xn,bS,bS];have:(if(0:Int)< (x.fArgs.length:Int) then(if(1:Int)<m then some true else some false) else some false)=some false:=by
   rw[if_neg (show ¬(1:Int)<m by omega)];split<;>rfl
  rw[this];have:=Mq (.mk x);simp only[bS,if_false,Bool.false_eq_true];congr 1;omega
 ·have hL:Xn m x 1 0=some (max 1 (min (1+maxL (x.fArgs.map dpE):Int) m)):=by
   refine YQ (F:=fun d i=>Xn m x d i) (l:=x.fArgs) (fun d _=>1≤d∧d≤m) (fun d t=>max d (min (1+maxL (t.map dpE):Int) m)) ?_ ?_ 1 (by omega)
   ·intro d hd;rw[Xn,bS,bS,if_neg (by omega)]
    simp[maxL,bS];omega
   ·intro i y t d h3 h4 a3 a5 hd a6;rw[Xn,bS,bS,if_pos h4,if_pos (show(1:Int)<m by omega),bS,if_pos rfl]
    simp only;rw[a5,omS,bS,Zw (n:=m - 1) (by omega),ih y a3 (a4 y a3) (m - 1) (by omega) (by omega),bS,if_pos trivial,ZA h3 h4 (by omega),Zw (by have:=Mq y;omega)]
    have hp:=Mq y;rw[a6 _ (by omega),List.map_cons,HD]
    congr 1;omega
  rw[hL,bS,FY];congr 1;omega
theorem Pp:∀(l:List Qb) (c:Int),0≤c→c≤2000→UK l c=some (min (c+l.length) 2001)
 | [],c,h0,h1=>by rw[UK];congr 1;simp;omega
 |a::t,c,h0,h1=>by
  rw[UK,bS,Zw (by omega)]
  by_cases h:2000<c+1;·rw[if_pos h];congr 1;simp;omega
  ·rw[if_neg h,Pp t (c+1) (by omega) (by omega)];congr 1;simp;omega
theorem aE_of:∀e:Qb,okE e→aE e:=Qb.ind fun x ih hx=>by
 obtain⟨_,_,_,hA,a3⟩:=hx.of;exact .mk x (by omega) (fun a ha=>ih a ha (a3 a ha))
theorem p_Size(x:Q1)(hx:okE (.mk x)):Nr x=some (min ((Z2 (.mk x)).length:Int) 2001):=by
 unfold Nr;rw[Ls x (aE_of _ hx),bS,Pp _ 0 (by omega) (by omega),bS];congr 1;show min (0+((Z2 (.mk x)).length:Int)) 2001=_;omega
theorem Q1d(x:Q1):1≤(Z2 (.mk x)).length:=by rw[MR];simp
theorem r_size:∀e:Qb,okE e→∀m:Int,0≤m→m≤100000→Jo e.f m=some (min ((Z2 e).length:Int) (m+1)):=Qb.ind fun x ih hx m h1 h2=>by
 obtain⟨_,_,_,hA,a4⟩:=hx.of;rw[Qb.f_mk,Jo];simp only[bS];have hL:YB m x 1 0=some (min (1+(Yj x.fArgs).length:Int) (m+1)):=by
  refine YQ (F:=fun d i=>YB m x d i) (l:=x.fArgs) (fun d _=>1≤d∧d≤m+1) (fun d t=>min (d+(Yj t).length:Int) (m+1)) ?_ ?_ 1 (by omega)
  ·intro d hd;rw[YB,bS,bS,if_neg (by omega)]
   simp[Yj,bS];omega
  ·intro i y t d h3 h4 a3 a5 hd a6;rw[YB,bS,bS,if_pos h4];by_cases hc:d≤m
   ·rw[if_pos hc,bS,if_pos rfl];simp only;have hp:1≤(Z2 y).length:=by cases y;exact Q1d _
    rw[a5,omS,bS,Zw (n:=m - d) (by omega),ih y a3 (a4 y a3) (m - d) (by omega) (by omega),bS,bS,ZA h3 h4 (by omega),Zw (by omega)]
    rw[a6 _ (by omega),CK,List.length_append]
    congr 1;omega
   ·rw[if_neg hc];simp only[bS,if_false,Bool.false_eq_true];congr 1;omega
 rw[hL,bS,Wn,List.length_cons];congr 1;omega
theorem r_Size(x:Q1)(hx:okE (.mk x)):WB x=some (min ((Z2 (.mk x)).length:Int) 2001):=by
 unfold WB;have:=r_size (.mk x) hx 2000 (by omega) (by omega)
 rw[Qb.f_mk] at this;rw[this,bS];simp only[Bool.false_eq_true,if_false];congr 1;omega
theorem P7{α:Type}(f:α→Int)(b:List α):∀a:List α,fstE f (a++b)=if fstE f a≠0 then fstE f a else fstE f b
 | []=>by simp[fstE]
 |x::t=>by
  rw[List.cons_append,fstE,fstE,P7 f b t];by_cases h:f x≠0;·simp[h]
  ·rw[if_neg h,if_neg h]
theorem HG:∀e:Qb,okE e→∀y∈Z2 e,okE y:=Qb.ind fun x ih hx y hy=>by
 obtain⟨_,_,_,hA,a3⟩:=hx.of;rw[Wn] at hy;rcases List.mem_cons.1 hy with rfl | hy
 ·exact hx
 ·unfold Yj at hy;obtain⟨l,hl,a5⟩:=List.mem_flatten.1 hy;obtain⟨a,ha,rfl⟩:=List.mem_map.1 hl;exact ih a ha (a3 a ha) y a5
theorem HJ:∀(l:List Qb),(∀a∈l,okE a)→U1 l=some (fstE (fun y=>V0 y.f) l)
 | [],_=>rfl
 |a::t,h=>by
  have ha:okE (.mk a.f):=by rw[Qb.mk_f];exact h a (by simp)
  rw[U1,OJ a.f ha,bS,HJ t (fun b hb=>h b (by simp[hb])),fstE]
  by_cases hp:V0 a.f=0;·simp[hp]
  ·simp[hp]
theorem Q09(x:Q1)(hx:okE (.mk x)):Dj x=some (Ny x):=by
 unfold Dj Ny MC;have hd:=p_depth (.mk x) hx 41 (by omega) (by omega)
 rw[Qb.f_mk] at hd;rw[hd,bS,bS,p_Size x hx,Ls x (aE_of _ hx)];by_cases h1:40<dpE (.mk x);·rw[if_pos h1,if_pos (by omega)]
 ·rw[if_neg h1,if_neg (by omega),bS]
  by_cases h2:2000< (Z2 (.mk x)).length;·rw[if_pos h2,if_pos (by omega)]
  ·rw[if_neg h2,if_neg (by omega),bS,HJ _ (HG _ hx),bS]
theorem r_part:∀e:Qb,okE e→Jm e.f=some (fstE (fun y=>V0 y.f) (Z2 e)):=Qb.ind fun x ih hx=>by
 obtain⟨h1,h2,h3,hA,a9⟩:=hx.of;have hI:x.fIdx.length≤4611686018427387904:=by omega
 have hL:Y7 x 0=some (if fstE (fun y=>V0 y.f) (Yj x.fArgs)≠0 then .inr (fstE (fun y=>V0 y.f) (Yj x.fArgs)) else .inl ()):=by
  refine YQ (α:=Unit) (F:=fun _ i=>Y7 x i) (l:=x.fArgs) (fun _ _=>True) (fun _ t=>if fstE (fun y=>V0 y.f) (Yj t)≠0 then .inr (fstE (fun y=>V0 y.f) (Yj t)) else .inl ()) ?_ ?_ () trivial
  ·intro _ _;rw[Y7,bS,if_neg (by omega)]
   simp[Yj,fstE]
  ·intro i y t _ h3 h4 a6 ac _ ad;rw[Y7,bS,if_pos h4,ac,omS,bS,ih y a6 (a9 y a6),bS,ZA h3 h4 (by omega),ad () trivial,CK,P7]
   by_cases hz:fstE (fun y=>V0 y.f) (Z2 y)=0
   ·simp[hz]
   ·simp[hz]
 rw[Qb.f_mk,Jm,r_plain x hI,r_named x hI,Q35 x hI,r_typed x (by omega),hL,Wn]
 rw[fstE];generalize fstE (fun y=>V0 y.f) (Yj x.fArgs)=z
 simp only[bS,Qb.f_mk];unfold V0;rcases Bool.eq_false_or_eq_true (plE x) with a1 | a1
 rotate_left
 ·simp[a1]
 rcases Bool.eq_false_or_eq_true (naE x) with a2 | a2
 rotate_left
 ·simp[a1,a2]
 rcases Bool.eq_false_or_eq_true (raE x) with a3 | a3
 rotate_left
 ·simp[a1,a2,a3]
 rcases Bool.eq_false_or_eq_true (tyE x) with a4 | a4
 rotate_left
 ·simp[a1,a2,a3,a4]
 rw[Q32 x hx a4,bS];rcases Bool.eq_false_or_eq_true (foE x) with a5 | a5
 rotate_left
 ·simp[a1,a2,a3,a4,a5]
 by_cases hz:z=0;·simp[a1,a2,a3,a4,a5,hz,bS]
 ·simp[a1,a2,a3,a4,a5,hz,bS]
theorem Q0g(x:Q1)(hx:okE (.mk x)):GQ x=some (Ny x):=by
 unfold GQ Ny NZ;have hd:=r_depth (.mk x) hx 41 (by omega) (by omega)
 have hp:=r_part (.mk x) hx;rw[Qb.f_mk] at hd hp;rw[hd,bS,bS,r_Size x hx];by_cases h1:40<dpE (.mk x);·rw[if_pos h1,if_pos (by omega)]
 ·rw[if_neg h1,if_neg (by omega),bS]
  by_cases h2:2000< (Z2 (.mk x)).length;·rw[if_pos h2,if_pos (by omega)]
  ·rw[if_neg h2,if_neg (by omega),hp,bS]
end Go.Proofs.YtolcgikajjkjgaaGreatDoor
end
section
namespace Go.Proofs.YtolcgikajjkjgaaGreatDoor
open Go HY
set_option linter.unusedVariables false
set_option linter.unusedSimpArgs false
def cmpZ(a b:Int):Int:=if a<b then -1 else if b<a then 1 else 0
theorem Ts(a b:Int):cmpZ a b=0↔a=b:=by unfold cmpZ;grind
theorem Lb(a b:Int):Zy a b=some (cmpZ a b):=by unfold Zy Di cmpZ;simp only[bS];grind
theorem Bo(a b:Int):VE a b=some (cmpZ a b):=by unfold VE Gj cmpZ;simp only[bS];grind
theorem p_order(a b:Int):Cz a b=some (cmpZ a b):=by unfold Cz cmpZ;grind
theorem p_Or(l:List Int)(hl:l.length≤100):∃r,Du l=some r∧(r=0↔∀x∈l,x=0):=by
  have key:∀(t p:List Int),l=p++t→∃r,Yy 0 l l.length p.length=some r∧(match r with | .inl _=>∀x∈t,x=0 | .inr k=>k≠0∧¬ ∀x∈t,x=0):=by
    intro t
    induction t with
    | nil => intro p e; have : p.length = l.length := by rw [e]; simp
             exact⟨_,by rw[Yy,if_neg (by omega)],by simp⟩
    |cons c t ih=>
      intro p e;have a3:(p.length:Int)<l.length:=by rw[e];simp;omega
      rw[Yy,if_pos a3,Yi e,bS,ZA (by omega) a3 (by omega)]
      by_cases hc:c=0
      · rw[if_neg (by simp[hc])]
        have:=ih (p++[c]) (by rw[e];simp)
        rw[show((p++[c]).length:Int)=(p.length:Int)+1 by simp] at this
        obtain⟨r,e1,e2⟩:=this;refine⟨r,e1,?_⟩;cases r with
        |inl u=>simpa[hc] using e2
        |inr k=>exact⟨e2.1,fun h=>e2.2 (fun x hx=>h x (by simp[hx]))⟩
      · exact⟨_,if_pos (by simp[hc]),hc,fun h=>hc (h c (by simp))⟩
  obtain⟨r,e1,e2⟩:=key l [] rfl;have a6:Yy 0 l l.length 0=some r:=e1;unfold Du;simp only[bS];rw[a6];cases r with
  |inl u=>exact⟨0,rfl,by simpa using e2⟩
  |inr k=>exact⟨k,rfl,⟨fun h=>absurd h e2.1,fun h=>absurd h e2.2⟩⟩
theorem Q2v(s:Str):∃r,Vr s []=some r∧(r=0↔s=[]):=by
 unfold Vr KQ Xv;cases s with
 |nil=>exact⟨0,rfl,by simp⟩
 |cons a t=>exact⟨1,rfl,by simp⟩
theorem Q2u(l:gLin):∃r,UL l ⟨0,[]⟩=some r∧(r=0↔zLn l=true):=by
 unfold UL Kl zLn;cases l with
 |mk k t=>
  cases t with
  |nil=>
   simp only[bS];rw[QN,if_neg (by simp)]
   simp only[bS,p_order];exact⟨cmpZ k 0,by simp,by simp[Ts]⟩
  |cons a t=>
   simp only[bS];rw[QN,if_pos (by simp<;>omega)]
   refine⟨1,?_,by simp⟩
   rw[show ix (a::t) 0=some a from rfl];simp[bS]
theorem Q2s(l:List Qi):∃r,Xz l []=some r∧(r=0↔l.length=0):=by
 unfold Xz;simp only[bS,Lb];by_cases h:l.length=0
 ·have:l=[]:=List.eq_nil_of_length_eq_zero h;subst this;refine⟨0,?_,by simp⟩
  unfold Kb;simp only[bS];rw[if_neg (by simp;rfl),Z3,if_neg (by simp)]
  simp[bS]
 ·have:cmpZ l.length (([]:List Qi).length:Nat)≠0:=by rw[Ne,Ts];simpa using h
  exact⟨_,if_pos (by simpa using this),⟨fun e=>absurd e this,fun e=>absurd e h⟩⟩
theorem Q2r(l:List Qb):∃r,ZT l []=some r∧(r=0↔l.length=0):=by
 rw[ZT];simp only[bS,Lb];by_cases h:l.length=0
 ·have:l=[]:=List.eq_nil_of_length_eq_zero h;subst this;refine⟨0,?_,by simp⟩
  rw[XG];simp only[bS];rw[if_neg (by simp;rfl),Z8,if_neg (by simp)]
  simp[bS]
 ·have:cmpZ l.length (([]:List Qb).length:Nat)≠0:=by rw[Ne,Ts];simpa using h
  exact⟨_,if_pos (by simpa using this),⟨fun e=>absurd e this,fun e=>absurd e h⟩⟩
theorem Pa(x:Q1):isZE x=true↔(x.fOp=0∧x.fName=[]∧x.fVal.fN=0∧x.fVal.fD=0∧(x.fType.fKind=0∧x.fType.fBits=0∧x.fType.fFrac=0∧x.fType.fRound=0∧x.fType.fOver=0)∧zLn x.fLin=true∧x.fIdx.length=0∧x.fArgs.length=0):=by
 unfold isZE;have e1:x.fType=zT↔(x.fType.fKind=0∧x.fType.fBits=0∧x.fType.fFrac=0∧x.fType.fRound=0∧x.fType.fOver=0):=by
  cases x.fType;simp[zT]
 rw[decide_eq_true_iff,e1]
theorem Q1g(x:Q1):Gm x=some (isZE x):=by
 unfold Gm Li;rw[bS,VT,Lb,Bo,Bo];unfold Dv;rw[Lb,Lb,Lb,Lb,Lb];simp only[bS];obtain⟨s,es,hs⟩:=Q2v x.fName;obtain⟨t,et,ht⟩:=p_Or [cmpZ x.fType.fKind 0,cmpZ x.fType.fBits 0,cmpZ x.fType.fFrac 0,cmpZ x.fType.fRound 0,cmpZ x.fType.fOver 0] (by simp)
 obtain⟨u,eu,hu⟩:=Q2u x.fLin;rw[es,et,eu];simp only[bS];obtain⟨v,ev,hv⟩:=p_Or [cmpZ x.fOp 0,s,cmpZ x.fVal.fN 0,cmpZ x.fVal.fD 0,t,u] (by simp)
 obtain⟨i,ei,hi⟩:=Q2s x.fIdx;obtain⟨a,ea,ha⟩:=Q2r x.fArgs;rw[ev,bS,ei,ea];simp only[bS,List.mem_cons,List.not_mem_nil,or_false,forall_eq_or_imp,forall_eq,Ts] at ht hv ⊢;have hz:=Pa x;rw[← hu,← ht,← hs,← hi,← ha] at hz;by_cases h1:v=0
 ·rw[if_neg (by simp[h1])]
  by_cases h2:i=0
  ·rw[if_neg (by simp[h2]),bS,bS]
   congr 1;rw[Bool.eq_iff_iff,hz,beq_iff_eq];have:=hv.1 h1;constructor;·intro h;exact⟨this.1,this.2.1,this.2.2.1,this.2.2.2.1,this.2.2.2.2.1,this.2.2.2.2.2,h2,h⟩
   ·intro h;exact h.2.2.2.2.2.2.2
  ·rw[if_pos (by simp[h2]),bS,bS]
   congr 1;rw[Bool.eq_iff_iff,hz,beq_iff_eq];exact⟨fun h=>absurd h h2,fun h=>h.2.2.2.2.2.2.1⟩
 ·rw[if_pos (by simp[h1]),bS,bS]
  congr 1;rw[Bool.eq_iff_iff,hz,beq_iff_eq];exact⟨fun h=>absurd h h1,fun h=>absurd (hv.2 ⟨h.1,h.2.1,h.2.2.1,h.2.2.2.1,h.2.2.2.2.1,h.2.2.2.2.2.1⟩) h1⟩
theorem Q33(x:Q1):Ue x (KG.mk (0:Int) [] (gVal.mk (0:Int) (0:Int)) (Q6.mk (0:Int) (0:Int) (0:Int) (0:Int) (0:Int)) (gLin.mk (0:Int) []) [] [])=some (isZE x):=by
 have hz:=Pa x;have hl:∀l:gLin,DW l ⟨0,[]⟩=some (zLn l):=fun l=>by
  unfold DW zLn;cases l with
  |mk k t=>
   cases t with
   |nil=>
    by_cases hk:k=0
    ·subst hk;simp only[bS];rw[UJ];simp[bS]
    ·simp[hk,bS]
   |cons a t=>
    have h1:¬((t.length:Int)+1=0):=by omega
    by_cases hk:k=0<;>simp[hk,bS,h1]
 have hi:∀l:List Qi,DV l []=some (decide (l.length=0)):=fun l=>by
  unfold DV;cases l with
  |nil=>simp only[bS];rw[Vq];simp[bS]
  |cons a t=>
   have h1:¬((t.length:Int)+1=0):=by omega
   simp[bS,h1]
 have ha:∀l:List Qb,Dt l []=some (decide (l.length=0)):=fun l=>by
  rw[Dt];cases l with
  |nil=>simp only[bS];rw[JK];simp[bS]
  |cons a t=>
   have h1:¬((t.length:Int)+1=0):=by omega
   simp[bS,h1]
 rw[Ue,hl,hi,ha];simp only[bS];generalize zLn x.fLin=Z at*;generalize isZE x=Q at*;simp only[beq_iff_eq,Bool.and_eq_true,Bool.and_true]
 grind
theorem Bp(x:Qw):plS x=true↔((x.fOp=1∨x.fOp=2∨x.fOp=3∨x.fOp=4)∧(x.fOp=4→x.fName=[])∧(x.fOp≠1→x.fMany=0∧x.fMark=0)∧(x.fOp≠3→x.fFold=0)∧(¬(x.fOp=2∨x.fOp=3)→x.fIdx.length=0)∧(x.fOp=1→isZE x.fExpr=true)∧(x.fOp=2∨x.fOp=3→x.fBody.length=0)):=by
 unfold plS;rw[decide_eq_true_iff]
theorem p_plain(x:Qw):Gn x=some (plS x):=by
 have hq:=Bp x;unfold Gn;rw[Q1g];generalize plS x=Q at*;generalize isZE x.fExpr=Z at*;generalize x.fIdx.length=I at*;generalize x.fBody.length=J at*;have hJ:((J:Int)=0)↔J=0:=by omega
 simp only[bS,bI,WY,Cc,if_true,if_false,Bool.false_eq_true,beq_iff_eq,bne_iff_ne,Bool.not_eq_true',beq_eq_false_iff_ne];by_cases h1:x.fOp=1;·simp[h1,hJ] at hq ⊢;grind
 by_cases h2:x.fOp=2;·simp[h2,hJ] at hq ⊢;grind
 by_cases h3:x.fOp=3;·simp[h3,hJ] at hq ⊢;grind
 by_cases h4:x.fOp=4;·simp[h4,hJ] at hq ⊢;grind
 simp[h1,h2,h3,h4] at hq ⊢;grind
theorem Q34(x:Qw):CY x=some (plS x):=by
 have hq:=Bp x;unfold CY;simp only[bS,Q33];generalize plS x=Q at*;generalize isZE x.fExpr=Z at*;generalize x.fIdx.length=I at*;generalize x.fBody.length=J at*;have hJ:((J:Int)=0)↔J=0:=by omega
 simp only[bS,bI,WY,Cc,if_true,if_false,Bool.false_eq_true,beq_iff_eq,bne_iff_ne,Bool.not_eq_true',beq_eq_false_iff_ne];by_cases h1:x.fOp=1;·simp[h1,hJ] at hq ⊢;grind
 by_cases h2:x.fOp=2;·simp[h2,hJ] at hq ⊢;grind
 by_cases h3:x.fOp=3;·simp[h3,hJ] at hq ⊢;grind
 by_cases h4:x.fOp=4;·simp[h4,hJ] at hq ⊢;grind
 simp[h1,h2,h3,h4] at hq ⊢;grind
end Go.Proofs.YtolcgikajjkjgaaGreatDoor
end
section
namespace Go.Proofs.YtolcgikajjkjgaaGreatDoor
open Go HY
set_option linter.unusedVariables false
set_option linter.unusedSimpArgs false
def okBf(b:Q9):Prop:=b.fDims.length*8≤140737488351232
def okBs(l:List Q9):Prop:=l.length≤140737488351232∧∀b∈l,okBf b
theorem Pq(b:Q9)(h:okBf b):JM b=some b:=by
 unfold JM Xe;unfold okBf at h;rw[if_pos (by omega)];rfl
theorem Tn(b:Q9)(l:List Q9)(s:Str):XK (b::l) s=if(b.fName==s)=true then some b else XK l s:=by
 unfold XK;rw[List.find?_cons];cases b.fName==s<;>rfl
theorem MU(n:Qd)(s:Str)(h:okBs n.fBufs):Yp n s=some ((XK n.fBufs s).getD zBuf,(XK n.fBufs s).isSome):=by
 obtain⟨hl,hb⟩:=h;have hL:ZL s n zBuf n.fBufs.length 0=some (match XK n.fBufs s with | some b=>.inr (b,true) | none=>.inl zBuf):=by
  refine YQ (α:=Unit) (F:=fun _ i=>ZL s n zBuf n.fBufs.length i) (l:=n.fBufs) (fun _ _=>True) (fun _ t=>match XK t s with | some b=>.inr (b,true) | none=>.inl zBuf) ?_ ?_ () trivial
  ·intro _ _;rw[ZL,if_neg (by omega)];rfl
  ·intro i y t _ h0 h1 hm a3 _ ih;rw[ZL,if_pos h1,a3,bS,bS,Pq y (hb y hm),bS,ZA h0 h1 (by omega),ih () trivial,Tn]
   cases y.fName==s<;>rfl
 unfold Yp;simp only[bS];rw[show(Q9.mk [] (Q6.mk (0:Int) (0:Int) (0:Int) (0:Int) (0:Int)) [] (0:Int))=zBuf from rfl,hL];cases XK n.fBufs s<;>rfl
theorem MW(n:Qd)(s:Str)(h:okBs n.fBufs):KY n s=some ((XK n.fBufs s).getD zBuf,(XK n.fBufs s).isSome):=by
 obtain⟨hl,hb⟩:=h;have hL:XF s n zBuf 0=some (match XK n.fBufs s with | some b=>.inr (b,true) | none=>.inl zBuf):=by
  refine YQ (α:=Unit) (F:=fun _ i=>XF s n zBuf i) (l:=n.fBufs) (fun _ _=>True) (fun _ t=>match XK t s with | some b=>.inr (b,true) | none=>.inl zBuf) ?_ ?_ () trivial
  ·intro _ _;rw[XF,bS,if_neg (by omega)];rfl
  ·intro i y t _ h0 h1 hm a3 _ ih;rw[XF,bS,if_pos h1,a3,bS,bS,ZA h0 h1 (by omega),ih () trivial,Tn]
   cases y.fName==s<;>rfl
 unfold KY;simp only[bS];rw[show(Q9.mk [] (Q6.mk (0:Int) (0:Int) (0:Int) (0:Int) (0:Int)) [] (0:Int))=zBuf from rfl,hL];cases XK n.fBufs s<;>rfl
theorem p_cfB(l:List Q9)(b:Q9)(hl:l.length≤4611686018427387904):Xf l b=some (l.any fun x=>x.fName==b.fName):=by
 obtain⟨r,e,h⟩:=idxF (l:=l) (q:=fun x=>x.fName==b.fName) (L:=QS l b l.length) hl (fun i=>by rw[QS]) (fun x _=>by unfold Ua;rfl)
 unfold Xf KC;simp only[bS];rw[e];cases r with
 |inl a=>simp only[bS];rw[h];rfl
 |inr k=>simp only[bS];rw[h.2];simp[h.1]
theorem p_bufs(l:List Q9)(hl:l.length≤140737488351232):Vy l=some (Ke [] l):=by
 have key:∀(t p:List Q9),l=p++t→Z6 l l.length p.length=some (if Ke p t≠0 then .inr (Ke p t) else .inl ()):=by
  intro t
  induction t with
  |nil=>
   intro p e;have:p.length=l.length:=by rw[e];simp
   rw[Z6,if_neg (by omega)];simp[Ke]
  |cons b t ih=>
   intro p e;have a7:(p.length:Int)<l.length:=by rw[e];simp;omega
   have ih:=ih (p++[b]) (by rw[e];simp)
   rw[show((p++[b]).length:Int)=(p.length:Int)+1 by simp] at ih
   have aa:List.drop 0 (List.take ((p.length:Int)).toNat l)=p:=by rw[Int.toNat_natCast,e];simp
   have a8:(0:Int)≤0∧(0:Int)≤(p.length:Int)∧(p.length:Int)≤((List.map Q5 l).length:Int):=⟨by omega,by omega,by rw[List.length_map];omega⟩
   rw[Z6,if_pos a7,Yi e,bS,Iv,bS,if_pos a8,aa,bS,p_cfB p b (by omega),bS,Ur,bS,SJ,bS,bS,ZA (by omega) a7 (by omega),ih]
   rw[Ke];rcases Bool.eq_false_or_eq_true (nm b.fName) with a1 | a1
   rotate_left
   ·simp[a1]
   rcases Bool.eq_false_or_eq_true (p.any fun x=>x.fName==b.fName) with a2 | a2
   ·simp[a1,a2]
   rcases Bool.eq_false_or_eq_true (tyOK b.fType) with a3 | a3
   rotate_left
   ·simp[a1,a2,a3]
   by_cases a4:Kf b.fDims=0
   rotate_left
   ·simp[a1,a2,a3,a4]
   by_cases a5:b.fUse<1;·simp[a1,a2,a3,a4,a5,bS]
   by_cases a6:3<b.fUse;·simp[a1,a2,a3,a4,a5,a6,bS]
   ·simp[a1,a2,a3,a4,a5,a6,bS]
 have h0:Z6 l l.length 0=_:=key l [] rfl;unfold Vy;simp only[bS];rw[h0];by_cases hz:Ke [] l=0<;>simp[hz,bS]
theorem Q1k(n:Qd)(b:Q9)(p t:List Q9)(e:n.fBufs=p++t)(hl:n.fBufs.length≤140737488351232):YF n p.length b 0=some (if(p.all fun x=> !(x.fName==b.fName)) then .inl () else .inr 8):=by
 refine Mm (l:=p) (q:=fun x=> !(x.fName==b.fName)) (L:=YF n p.length b) (by rw[e] at hl;simp at hl;omega) (by rw[YF,if_neg (by omega)]) (fun i y h0 h1 hm a3=> ?_)
 have a4:ix n.fBufs i=some y:=by
  unfold ix at a3 ⊢;rw[if_pos h0] at a3 ⊢;rw[e,List.getElem?_append_left (List.getElem?_eq_some_iff.1 a3).1];exact a3
 rw[YF,if_pos h1,a4,bS];cases y.fName==b.fName<;>simp
theorem all_not{α:Type}(q:α→Bool)(l:List α):(l.all fun x=> !(q x))= !(l.any q):=by
 induction l with
 |nil=>rfl
 |cons a t ih=>rw[List.all_cons,List.any_cons,ih];cases q a<;>simp
theorem r_bufs(n:Qd)(hl:n.fBufs.length≤140737488351232):WE n=some (Ke [] n.fBufs):=by
 have key:∀(t p:List Q9),n.fBufs=p++t→YE n p.length=some (if Ke p t≠0 then .inr (Ke p t) else .inl ()):=by
  intro t
  induction t with
  |nil=>
   intro p e;have:p.length=n.fBufs.length:=by rw[e];simp
   rw[YE,bS,if_neg (by omega)];simp[Ke]
  |cons b t ih=>
   intro p e;have a7:(p.length:Int)<n.fBufs.length:=by rw[e];simp;omega
   have ih:=ih (p++[b]) (by rw[e];simp)
   rw[show((p++[b]).length:Int)=(p.length:Int)+1 by simp] at ih
   rw[YE,bS,if_pos a7,Yi e,bS,CN,bS,bS,Q1k n b p _ e hl,all_not];rw[Ke];rcases Bool.eq_false_or_eq_true (nm b.fName) with a1 | a1
   rotate_left
   ·simp[a1]
   rcases Bool.eq_false_or_eq_true (p.any fun x=>x.fName==b.fName) with a2 | a2
   ·simp[a1,a2,bS]
   simp only[a1,a2,Bool.not_false,if_true,bS,HN,r_shape,ZA (show(0:Int)≤p.length by omega) a7 (by omega),ih]
   rcases Bool.eq_false_or_eq_true (tyOK b.fType) with a3 | a3
   rotate_left
   ·simp[a3]
   by_cases a4:Kf b.fDims=0
   rotate_left
   ·simp[a3,a4]
   by_cases a5:b.fUse<1;·simp[a3,a4,a5,bS]
   by_cases a6:3<b.fUse;·simp[a3,a4,a5,a6,bS]
   ·simp[a3,a4,a5,a6,bS]
 have h0:YE n 0=_:=key n.fBufs [] rfl;unfold WE;simp only[bS];rw[h0];by_cases hz:Ke [] n.fBufs=0<;>simp[hz,bS]
theorem dp_f(s:Qe):dp s=1+dpL s.f.fBody:=by
 cases s with
 |mk x=>rw[dp];simp[dpL,Qe.f]
theorem okS.f{s:Qe}(h:okS s):okSs s.f.fBody:=by
 cases s with
 |mk x=>exact h.of.2.2.2
theorem Gg{P:List Qe→Prop}(h:∀l,okSs l→(∀s∈l,P s.f.fBody)→P l):∀l,okSs l→P l:=by
 have key:∀s:Qe,okS s→P s.f.fBody:=Qe.ind fun x ih hx=>by
  have hb:=hx.of.2.2.2;exact h _ hb fun s hs=>ih s hs (hb.2 s hs)
 exact fun l hl=>h l hl fun s hs=>key s (hl.2 s hs)
theorem Q2y:∀l,okSs l→∀m:Int,0≤m→m≤1000→Yq l m=some (decide ((dpL l:Int)≤m)):=Gg fun l hl ih m h0 h1=>by
 have a3:l.length≤4611686018427387904:=by have:=hl.1;omega
 have hL:ZM l m l.length 0=some (if l.all (fun s=>decide ((dp s:Int)≤m)) then .inl () else .inr false):=by
  refine Mm (L:=ZM l m l.length) a3 (by rw[ZM,if_neg (by omega)]) (fun i y h2 h3 hm a5=> ?_)
  rw[ZM,if_pos h3,bS,a5,omS,bS];by_cases hc:m<1;·rw[if_pos hc,bS,if_pos rfl,if_neg (by simp[dp_f];omega)]
  ·rw[if_neg hc,Zw (n:=m - 1) (by omega),ih y hm (m - 1) (by omega) (by omega),bS]
   by_cases hd:(dpL y.f.fBody:Int)≤m - 1
   ·have:(dp y:Int)≤m:=by rw[dp_f];omega
    simp[hd,this,bS]
   ·have:¬(dp y:Int)≤m:=by rw[dp_f];omega
    simp[hd,this,bS]
 have a4:l.all (fun s=>decide ((dp s:Int)≤m))=decide ((dpL l:Int)≤m):=by
  unfold dpL;clear hL ih hl a3
  induction l with
  |nil=>simp[maxL,h0]
  |cons a t ih=>
   rw[List.all_cons,ih,List.map_cons,HD,Bool.eq_iff_iff,Bool.and_eq_true,decide_eq_true_iff,decide_eq_true_iff,decide_eq_true_iff];omega
 rw[Yq];simp only[bS];rw[hL,a4];by_cases hc:(dpL l:Int)≤m<;>simp[hc,bS]
theorem Q31:∀l,okSs l→∀m:Int,0≤m→m≤1000→Vu l m=some (min (dpL l:Int) m):=Gg fun l hl ih m ac ad=>by
 have e1:=hl.1;have L:Xp l m 0 0=some (max 0 (min (dpL l:Int) m)):=by
  by_cases hm:m=0
  ·subst hm;rw[Xp];simp
   try omega
  refine YQ (F:=fun a i=>Xp l m a i) (l:=l) (fun a t=>0≤a∧a≤m) (fun a t=>max a (min (dpL t:Int) m)) ?_ ?_ _ (by omega)
  ·intro a hI;rw[Xp];simp[dpL,maxL];omega
  ·intro i v t a h0 h1 hv a3 hI a7;rw[Xp];have hw:=ZA h0 h1 (by omega)
   have a5:wr (m - 1)=m - 1:=Zw (by omega)
   have a6:wr (1+min (dpL v.f.fBody:Int) (m - 1))=1+min (dpL v.f.fBody:Int) (m - 1):=Zw (by omega)
   have a4:0<m:=by omega
   simp only[Option.bind_eq_bind,Option.bind_some,h1,if_true,a4,a3,Option.map_some,a5,ih v hv (m - 1) (by omega) (by omega),a6,hw]
   rw[a7 _ (by omega)]
   have:dpL (v::t)=max (dp v) (dpL t):=rfl;rw[this,dp_f];congr 1;omega
 rw[Vu];simp only[Option.bind_eq_bind,Option.bind_some,L];congr 1;omega
theorem sz_f(s:Qe):sz s=1+szL s.f.fBody:=by
 cases s with
 |mk x=>rw[sz];simp[szL,Qe.f]
theorem IB(s:Qe)(l:List Qe):szL (s::l)=sz s+szL l:=by simp[szL]
def szB(l:List Qe):Nat:=(l.map fun s=>szL s.f.fBody).sum
theorem szL_B(l:List Qe):szL l=l.length+szB l:=by
 induction l with
 |nil=>rfl
 |cons s t ih=>rw[IB,sz_f,ih];simp[szB];omega
theorem PR(s:Qe)(t:List Qe):szB (s::t)=szL s.f.fBody+szB t:=by simp[szB]
abbrev cntQ(T k r:Int):Prop:=(T≤k→r=T)∧(k<T→k<r)∧r≤k+549755813888
theorem p_count:∀l,okSs l→∀k:Int,0≤k→k≤2000→wp (Xb l k) (cntQ (szL l) k):=Gg fun l hl ih k h0 h1=>by
 have e1:=hl.1;rw[Xb];simp only[bS];have hL:wp (Zt l k l.length l.length 0) (cntQ (szL l) k):=by
  refine Bf (F:=fun c i=>Zt l k c l.length i) (l:=l) (fun c t=>0≤c∧c≤k+549755813888∧(c+szB t=(szL l:Int)∨(k<c∧k< (szL l:Int)))) ?_ ?_ _ ⟨by omega,by omega,.inl (by rw[szL_B];omega)⟩
  ·intro c hI;rw[Zt,if_neg (by omega)]
   refine ZE.2 ?_;simp[szB] at hI;unfold cntQ;omega
  ·intro i y t c h2 h3 hm a5 _ hI a7;rw[Zt,if_pos h3];rw[PR] at hI;by_cases hc:k<c
   ·rw[if_pos hc];refine ZE.2 ?_;unfold cntQ;omega
   ·rw[if_neg hc,a5,omS,bS,Zw (n:=k - c) (by omega),ZA h2 h3 (by omega)]
    obtain⟨r,er,hr⟩:=ih y hm (k - c) (by omega) (by omega)
    rw[er,bS,bS];unfold cntQ at hr;rw[Zw (n:=c+r) (by omega)]
    exact a7 _ ⟨by omega,by omega,by omega⟩
 obtain⟨r,er,hr⟩:=hL;rw[er,bS];exact ZE.2 hr
theorem r_sizeS:∀l,okSs l→∀k:Int,0≤k→k≤2000→wp (Jp l k) (cntQ (szL l) k):=Gg fun l hl ih k h0 h1=>by
 have e1:=hl.1;rw[Jp];simp only[bS];have hL:wp (YH l k l.length 0) (cntQ (szL l) k):=by
  refine Bf (F:=fun c i=>YH l k c i) (l:=l) (fun c t=>0≤c∧c≤k+549755813888∧(c+szB t=(szL l:Int)∨(k<c∧k< (szL l:Int)))) ?_ ?_ _ ⟨by omega,by omega,.inl (by rw[szL_B];omega)⟩
  ·intro c hI;rw[YH,bS,bS,if_neg (by omega)]
   simp only[bS,if_false,Bool.false_eq_true];refine ZE.2 ?_;simp[szB] at hI;unfold cntQ;omega
  ·intro i y t c h2 h3 hm a5 _ hI a7;rw[YH,bS,bS,if_pos h3];rw[PR] at hI;by_cases hc:c≤k
   ·rw[if_pos hc,bS,if_pos rfl];simp only;rw[a5,omS,bS,Zw (n:=k - c) (by omega),ZA h2 h3 (by omega)]
    simp only[if_true];rw[show max 0 (k - c)=k - c by omega]
    obtain⟨r,er,hr⟩:=ih y hm (k - c) (by omega) (by omega)
    rw[er,bS,bS];unfold cntQ at hr;rw[Zw (n:=c+r) (by omega)]
    exact a7 _ ⟨by omega,by omega,by omega⟩
   ·rw[if_neg hc];simp only[bS,if_false,Bool.false_eq_true];refine ZE.2 ?_;unfold cntQ;omega
 obtain⟨r,er,hr⟩:=hL;rw[er,bS];exact ZE.2 hr
end Go.Proofs.YtolcgikajjkjgaaGreatDoor
end
section
namespace Go.Proofs.YtolcgikajjkjgaaGreatDoor
open Go HY
set_option linter.unusedVariables false
set_option linter.unusedSimpArgs false
theorem p_cfM(l:List Zu)(c:Q0)(hl:l.length≤4611686018427387904)(hs:c.fscope.length≤4611686018427387904):Xs l c=some (l.any fun m=> !(c.fscope.contains m.fName)):=by
 obtain⟨r,e,h⟩:=idxF (l:=l) (q:=fun m=> !(c.fscope.contains m.fName)) (L:=QY l c l.length) hl (fun i=>by rw[QY]) (fun x _=>by unfold VV;rw[Iu _ _ hs];rfl)
 unfold Xs KR;simp only[bS];rw[e];cases r with
 |inl a=>simp only[bS];rw[h];rfl
 |inr k=>simp only[bS];rw[h.2];simp[h.1]
theorem HK(c:Q0)(l:gLin)(hl:okL l)(hs:c.fscope.length≤4611686018427387904):X7 c l=some (inS c.fscope l):=by
 unfold X7 inS;rw[p_cfM _ _ (by have:=hl.2.1;omega) hs,bS,LD]
theorem p_cfL(l:List gLin)(c:Q0)(hl:l.length≤4611686018427387904)(ha:∀a∈l,okL a)(hs:c.fscope.length≤4611686018427387904):XH l c=some (l.any fun a=> !(inS c.fscope a)):=by
 obtain⟨r,e,h⟩:=idxF (l:=l) (q:=fun a=> !(inS c.fscope a)) (L:=QZ l c l.length) hl (fun i=>by rw[QZ]) (fun x hx=>by unfold Ub;rw[HK _ _ (ha x hx) hs];rfl)
 unfold XH V6;simp only[bS];rw[e];cases r with
 |inl a=>simp only[bS];rw[h];rfl
 |inr k=>simp only[bS];rw[h.2];simp[h.1]
theorem Q1h(c:Q0)(l:List Qi)(hl:l.length≤4611686018427387904)(hi:∀i∈l,okI i)(hs:c.fscope.length≤4611686018427387904)(b:Bool):QF c b l l.length 0=some (b&&l.all fun i=>(Xj i).all (inS c.fscope)):=by
 refine YQ (F:=fun b i=>QF c b l l.length i) (l:=l) (fun _ _=>True) (fun b t=>b&&t.all fun i=>(Xj i).all (inS c.fscope)) ?_ ?_ b trivial
 ·intro b _;rw[QF,if_neg (by omega)];simp
 ·intro i y t b h0 h1 hm a3 _ ih;have hy:=hi y hm;rw[QF,if_pos h1,a3,bS,HK c y.fLin hy.1 hs,bS,p_cfL y.fAt c (by have:=hy.2.1;omega) hy.2.2 hs,bS,ZA h0 h1 hl,ih _ trivial,ih _ trivial,LD]
  simp only[Xj,List.all_cons];cases b<;>cases inS c.fscope y.fLin<;>simp
theorem Q0a(c:Q0)(l:List Qi)(hl:l.length≤4611686018427387904)(hb:okBs c.fnest.fBufs):QK c l l.length 0=some (if KI c.fnest l≠0 then .inr (KI c.fnest l) else .inl ()):=by
 refine YQ (α:=Unit) (F:=fun _ i=>QK c l l.length i) (l:=l) (fun _ _=>True) (fun _ t=>if KI c.fnest t≠0 then .inr (KI c.fnest t) else .inl ()) ?_ ?_ () trivial
 ·intro _ _;rw[QK,if_neg (by omega)];simp[KI]
 ·intro i y t _ h0 h1 hm a3 _ ih;rw[QK,if_pos h1,a3,bS,MU _ _ hb,bS,bS,bS,ZA h0 h1 hl,ih () trivial,KI];by_cases hf:y.fFrom=[];·simp[hf]
  ·simp only[hf,if_false,beq_iff_eq];cases XK c.fnest.fBufs y.fFrom with
   |none=>simp
   |some b=>
    by_cases h2:b.fType.fKind=3
    ·by_cases h3:b.fDims.length=y.fAt.length;·simp[h2,h3]
     ·simp[h2,h3];omega
    ·simp[h2]
theorem TD(n:Qd)(sc:List Str)(x:Q1):VZ n sc x=if(inS sc x.fLin&&x.fIdx.all fun i=>(Xj i).all (inS sc))=false then 9 else if x.fOp≠3 then 0 else match XK n.fBufs x.fName with
 |none=>9
 |some b=>if b.fDims.length≠x.fIdx.length then 11 else KI n x.fIdx:=by
 unfold VZ;have:(Uc x).all (inS sc)=(inS sc x.fLin&&x.fIdx.all fun i=>(Xj i).all (inS sc)):=by
  unfold Uc;rw[List.all_cons];congr 1;generalize x.fIdx=l
  induction l with
  |nil=>rfl
  |cons a t ih=>simp only[List.map_cons,List.flatten_cons,List.all_append,List.all_cons];rw[ih]
 rw[this]<;>rfl
theorem p_node(c:Q0)(x:Q1)(hx:okE (.mk x))(hb:okBs c.fnest.fBufs)(hs:c.fscope.length≤4611686018427387904):VA c x=some (VZ c.fnest c.fscope x):=by
 obtain⟨h1,h2,h3,h4,h5⟩:=hx.of;have hI:x.fIdx.length≤4611686018427387904:=by omega
 rw[TD];unfold VA;rw[HK c _ h1 hs];simp only[bS];rw[Q1h c _ hI h3 hs,bS];generalize (inS c.fscope x.fLin&&x.fIdx.all fun i=>(Xj i).all (inS c.fscope))=A
 rw[MU _ _ hb,Q0a c _ hI hb];simp only[bS];cases A with
 |false=>simp
 |true=>
  by_cases ho:x.fOp=3
  ·simp only[ho,if_true,bne_self_eq_false,Bool.false_eq_true,if_false];cases XK c.fnest.fBufs x.fName with
   |none=>simp
   |some b=>
    by_cases h6:b.fDims.length=x.fIdx.length
    ·by_cases h7:KI c.fnest x.fIdx=0;·simp[h6,h7,bS]
     ·simp[h6,h7,bS]
    ·have:¬(b.fDims.length:Int)=x.fIdx.length:=by omega
     simp[h6,this]
  ·simp[ho]
theorem FU{α:Type}(f:α→Str)(l:List α)(s:Str):(l.map f).contains s=l.any fun b=>f b==s:=by
 induction l with
 |nil=>rfl
 |cons a t ih=>
  rw[List.map_cons,List.contains_cons,List.any_cons,ih];congr 1;rw[Bool.eq_iff_iff,beq_iff_eq,beq_iff_eq];exact eq_comm
theorem Q0h(ls:List gLin)(bs:List Qt)(i k:Int)(a:gLin)(m:Zu)(hi:ix ls i=some a)(hk:ix a.fL k=some m)(hl:bs.length≤4611686018427387904)(b:Bool):Xo ls bs i k b 0=some (b || bs.any fun y=>y.fName==m.fName):=by
 refine YQ (F:=fun b j=>Xo ls bs i k b j) (l:=bs) (fun _ _=>True) (fun b t=>b || t.any fun y=>y.fName==m.fName) ?_ ?_ b trivial
 ·intro b _;rw[Xo,bS,if_neg (by omega)];simp
 ·intro j y t b h0 h1 hm a3 _ ih;rw[Xo,bS,if_pos h1,a3,bS,hi,bS,hk,bS,ZA h0 h1 hl,ih _ trivial,ih _ trivial,List.any_cons];cases b<;>simp
theorem Bq(ls:List gLin)(bs:List Qt)(h1:ls.length≤4611686018427387904)(h2:∀a∈ls,okL a)(hl:bs.length≤4611686018427387904):D6 ls bs=some (ls.all (inS (bs.map (·.fName)))):=by
 have h5:∀(i:Int) (a:gLin),ix ls i=some a→okL a→Yb ls bs i 0=some (if a.fL.all (fun m=>(bs.map (·.fName)).contains m.fName) then .inl () else .inr false):=fun i a hi ha=>by
  refine Mm (L:=Yb ls bs i) (by have:=ha.2.1;omega) (by rw[Yb,hi,bS,bS,if_neg (by omega)]) (fun k m h3 h4 hm hk=> ?_)
  rw[Yb,hi,bS,bS,if_pos h4,bS,Q0h ls bs i k a m hi hk hl,bS,FU,Bool.false_or]
 have hL:Ya ls bs 0=some (if ls.all (inS (bs.map (·.fName))) then .inl () else .inr false):=by
  refine Mm (L:=Ya ls bs) h1 (by rw[Ya,bS,if_neg (by omega)]) (fun i a h3 h4 hm hi=> ?_)
  rw[Ya,bS,if_pos h4,bS,h5 i a hi (h2 a hm)];unfold inS;cases a.fL.all (fun m=>(bs.map (·.fName)).contains m.fName)<;>simp[bS]
 unfold D6;rw[bS,hL];cases ls.all (inS (bs.map (·.fName)))<;>rfl
theorem r_lins(l:List Qi)(hl:l.length≤6)(ha:∀i∈l,i.fAt.length≤6):WI l=some (l.map Xj).flatten:=by
 have key:∀(t p:List Qi),l=p++t→((p.map Xj).flatten).length≤7*p.length→YG l (p.map Xj).flatten p.length=some (l.map Xj).flatten:=by
  intro t
  induction t with
  |nil=>
   intro p e _;have:p.length=l.length:=by rw[e];simp
   rw[YG,bS,if_neg (by omega)];simp at e;rw[e]
  |cons i t ih=>
   intro p e hp;have a3:(p.length:Int)<l.length:=by rw[e];simp;omega
   have hA:=ha i (by rw[e];simp)
   have ih:=ih (p++[i]) (by rw[e];simp) (by rw[List.map_append,List.flatten_append,List.length_append];simp only[List.map_cons,List.map_nil,List.flatten_cons,List.flatten_nil,List.append_nil,Xj,List.length_cons,List.length_append,List.length_nil];omega)
   rw[show((p++[i]).length:Int)=(p.length:Int)+1 by simp,show((p++[i]).map Xj).flatten=((p.map Xj).flatten++[i.fLin])++i.fAt by simp[Xj]] at ih
   rw[YG,bS,if_pos a3,Yi e,bS,if_pos (by omega),bS,bS,if_pos (by rw[List.length_append,List.length_map];simp only[List.length_singleton];omega),bS,ZA (by omega) a3 (by omega)]
   exact ih
 unfold WI;simp only[bS];have h0:YG l [] 0=_:=key l [] rfl (by simp)
 rw[h0,bS]
theorem Q0j(n:Qd)(x:Q1)(hl:x.fIdx.length≤4611686018427387904)(hb:okBs n.fBufs):Xq n x 0=some (if KI n x.fIdx≠0 then .inr (KI n x.fIdx) else .inl ()):=by
 refine YQ (α:=Unit) (F:=fun _ i=>Xq n x i) (l:=x.fIdx) (fun _ _=>True) (fun _ t=>if KI n t≠0 then .inr (KI n t) else .inl ()) ?_ ?_ () trivial
 ·intro _ _;rw[Xq,bS,if_neg (by omega)];simp[KI]
 ·intro i y t _ h0 h1 hm a3 _ ih;rw[Xq,bS,if_pos h1,a3,bS,bS,MW _ _ hb,bS,bS,bS,bS,ZA h0 h1 hl,ih () trivial,KI];by_cases hf:y.fFrom=[];·simp[hf]
  ·simp only[hf,if_false,beq_iff_eq];cases XK n.fBufs y.fFrom with
   |none=>simp
   |some b=>
    by_cases h2:b.fType.fKind=3
    ·by_cases h3:b.fDims.length=y.fAt.length;·simp[h2,h3]
     ·simp[h2,h3];omega
    ·simp[h2]
theorem Ep{x:Q1}(h:raE x=true):(x.fArgs.length:Int)=NA x.fOp∧x.fIdx.length≤6∧∀i∈x.fIdx,i.fAt.length≤6:=by
 unfold raE at h;rw[Bool.and_eq_true,decide_eq_true_iff,List.all_eq_true] at h;exact⟨h.1.1,h.1.2,fun i hi=>by simpa using h.2 i hi⟩
theorem r_node(n:Qd)(bs:List Qt)(x:Q1)(hx:okE (.mk x))(hr:raE x=true)(hb:okBs n.fBufs)(hs:bs.length≤4611686018427387904):WK n bs x=some (VZ n (bs.map (·.fName)) x):=by
 obtain⟨h1,h2,h3,h4,h5⟩:=hx.of;obtain⟨r1,r2,r3⟩:=Ep hr;have hI:x.fIdx.length≤4611686018427387904:=by omega
 have a4:((x.fIdx.map Xj).flatten).length≤4611686018427387904:=by
  have:∀l:List Qi,(∀i∈l,i.fAt.length≤6)→((l.map Xj).flatten).length≤7*l.length:=by
   intro l
   induction l with
   |nil=>intro _;simp
   |cons a t ih=>intro h;have:=ih (fun i hi=>h i (by simp[hi]));have:=h a (by simp);simp[Xj] at*;omega
  have:=this _ r3;omega
 have a5:∀a∈ (x.fIdx.map Xj).flatten,okL a:=fun a ha=>Ac h1 h3 a (by unfold Uc;simp[ha])
 rw[TD];unfold WK;simp only[bS];rw[Bq [x.fLin] bs (by simp) (by simpa using h1) hs,r_lins _ r2 r3]
 simp only[bS];rw[Bq _ bs a4 a5 hs,MW _ _ hb,Q0j n x hI hb];simp only[bS];have e1:[x.fLin].all (inS (bs.map (·.fName)))=inS (bs.map (·.fName)) x.fLin:=by simp
 have e2:((x.fIdx.map Xj).flatten).all (inS (bs.map (·.fName)))=x.fIdx.all fun i=>(Xj i).all (inS (bs.map (·.fName))):=by
  generalize x.fIdx=l
  induction l with
  |nil=>rfl
  |cons a t ih=>simp only[List.map_cons,List.flatten_cons,List.all_append,List.all_cons];rw[ih]
 rw[e1,e2];generalize inS (bs.map (·.fName)) x.fLin=A;generalize (x.fIdx.all fun i=>(Xj i).all (inS (bs.map (·.fName))))=B
 have a3:(if(x.fOp !=(3:Int))=true then some (0:Int) else(if(XK n.fBufs x.fName).isSome=true then(if(((((XK n.fBufs x.fName).getD zBuf).fDims.length:Nat):Int) !=(x.fIdx.length:Int))=true then some 11 else((some (if KI n x.fIdx≠0 then .inr (KI n x.fIdx) else .inl ()):Option (Unit ⊕ Int))>>=fun a6=>(match a6 with | (.inl v12)=>some (0:Int) | (.inr v13)=>some v13))) else some 9))=some (if x.fOp≠3 then 0 else match XK n.fBufs x.fName with | none=>9 | some b=>if b.fDims.length≠x.fIdx.length then 11 else KI n x.fIdx):=by
  by_cases ho:x.fOp=3
  ·simp only[ho,if_true,bne_self_eq_false,Bool.false_eq_true,if_false];cases XK n.fBufs x.fName with
   |none=>simp
   |some b=>
    by_cases h6:b.fDims.length=x.fIdx.length
    ·by_cases h7:KI n x.fIdx=0;·simp[h6,h7,bS]
     ·simp[h6,h7,bS]
    ·have:¬(b.fDims.length:Int)=x.fIdx.length:=by omega
     simp[h6,this]
  ·simp[ho]
 cases A with
 |false=>simp[bS]
 |true=>
  cases B with
  |false=>simp[bS]
  |true=>
   simp only[if_true,bS,Bool.true_and,Bool.true_eq_false,Bool.false_eq_true,if_false];exact a3
end Go.Proofs.YtolcgikajjkjgaaGreatDoor
end
section
namespace Go.Proofs.YtolcgikajjkjgaaGreatDoor
open Go HY
set_option linter.unusedVariables false
set_option linter.unusedSimpArgs false
theorem Fe(n:Qd)(x:Q1):kd n (.mk x)=kd1 n x (x.fArgs.map (kd n)):=by rw[kd];simp
theorem kd_err(n:Qd)(e:Qb)(h:(kd n e).2≠0):kd n e=(zT,10):=by
 cases e with
 |mk x=>
  rw[Fe] at h ⊢;unfold kd1 at h ⊢;split;·rfl
  ·rename_i h1;rw[if_neg h1] at h;split;·rename_i h2;rw[if_pos h2] at h;exact absurd rfl h
   ·rename_i h2;rw[if_neg h2] at h;split;·rename_i h3;rw[if_pos h3] at h;exact absurd rfl h
    ·rename_i h3;rw[if_neg h3] at h;split;·rename_i h4;rw[if_pos h4] at h;exact absurd rfl h
     ·rename_i h4;rw[if_neg h4] at h;split;·rename_i h5;rw[if_pos h5] at h;exact absurd rfl h
      ·rename_i h5;rw[if_neg h5] at h;split;·rfl
       ·rename_i hl;rw[hl] at h;exact absurd rfl h
       ·rename_i hl;rw[hl] at h;simp only at h ⊢;split;·rfl
        ·rename_i h6;rw[if_neg h6] at h;split;·rename_i h7;rw[if_pos h7] at h;exact absurd rfl h
         ·rename_i h7;rw[if_neg h7] at h;exact absurd rfl h
theorem HL{x:Q1}(h:V0 x=0):plE x=true∧raE x=true∧tyE x=true:=by
 unfold V0 at h;rcases Bool.eq_false_or_eq_true (plE x) with a1 | a1
 rotate_left
 ·simp[a1] at h
 rcases Bool.eq_false_or_eq_true (naE x) with a2 | a2
 rotate_left
 ·simp[a1,a2] at h
 rcases Bool.eq_false_or_eq_true (raE x) with a3 | a3
 rotate_left
 ·simp[a1,a2,a3] at h
 rcases Bool.eq_false_or_eq_true (tyE x) with a4 | a4
 rotate_left
 ·simp[a1,a2,a3,a4] at h
 exact⟨a1,a3,a4⟩
inductive Ar (x:Q1):Prop
 |a0 (h:x.fOp=1∨x.fOp=2∨x.fOp=3) (e:x.fArgs=[])
 |a1 (h:x.fOp=8∨x.fOp=12) (a:Qb) (e:x.fArgs=[a]) (c:isC a.f=false)
 |aN (h:x.fOp=18) (a:Qb) (e:x.fArgs=[a]) (c:isC a.f=true)
 |aB (h:x.fOp=16∨x.fOp=17) (a b:Qb) (e:x.fArgs=[a,b]) (c:isC a.f=true) (d:isC b.f=true)
 |aI (h:x.fOp=11) (a b c:Qb) (e:x.fArgs=[a,b,c]) (h1:isC a.f=true) (h2:isC b.f=false) (h3:isC c.f=false)
 |a2 (h:x.fOp≠1∧x.fOp≠2∧x.fOp≠3∧x.fOp≠8∧x.fOp≠12∧x.fOp≠18∧x.fOp≠16∧x.fOp≠17∧x.fOp≠11) (a b:Qb) (e:x.fArgs=[a,b]) (h1:isC a.f=false) (h2:isC b.f=false)
theorem len1{α:Type}{l:List α}(h:l.length=1):∃a,l=[a]:=List.length_eq_one_iff.1 h
theorem len2{α:Type}{l:List α}(h:l.length=2):∃a b,l=[a,b]:=by
 match l,h with
 | [a,b],_=>exact⟨a,b,rfl⟩
theorem len3{α:Type}{l:List α}(h:l.length=3):∃a b c,l=[a,b,c]:=by
 match l,h with
 | [a,b,c],_=>exact⟨a,b,c,rfl⟩
theorem ar_of{x:Q1}(hr:raE x=true)(ht:tyE x=true):Ar x:=by
 obtain⟨h1,_,_⟩:=Ep hr;have h2:argG x.fOp 0 x.fArgs=true:=by
  unfold tyE at ht;rw[Bool.and_eq_true] at ht;exact ht.2
 unfold NA at h1;by_cases k0:x.fOp=1∨x.fOp=2∨x.fOp=3
 ·rw[if_pos k0] at h1;exact .a0 k0 (List.eq_nil_of_length_eq_zero (by omega))
 rw[if_neg k0] at h1;by_cases k1:x.fOp=8∨x.fOp=12∨x.fOp=18
 ·rw[if_pos k1] at h1;obtain⟨a,e⟩:=len1 (l:=x.fArgs) (by omega)
  rw[e] at h2;simp only[argG,Bool.and_true] at h2;by_cases k:x.fOp=18;·exact .aN k a e (by simpa[k,GI] using h2)
  ·exact .a1 (by omega) a e (by rcases(show x.fOp=8∨x.fOp=12 by omega) with q | q<;>simpa[q,GI] using h2)
 rw[if_neg k1] at h1;by_cases k2:x.fOp=11
 ·rw[if_pos k2] at h1;obtain⟨a,b,c,e⟩:=len3 (l:=x.fArgs) (by omega)
  rw[e] at h2;simp[argG,GI,k2] at h2;exact .aI k2 a b c e h2.1 h2.2.1 h2.2.2
 rw[if_neg k2] at h1;obtain⟨a,b,e⟩:=len2 (l:=x.fArgs) (by omega)
 rw[e] at h2;by_cases k3:x.fOp=16∨x.fOp=17;·refine .aB k3 a b e ?_ ?_<;>rcases k3 with q | q<;>simp[argG,GI,q] at h2<;>simp[h2]
 ·have q1:∀i,GI x.fOp i=false:=fun i=>by
   unfold GI;have:x.fOp≠16∧x.fOp≠17∧x.fOp≠18:=by omega
   simp[k2,this]
  simp[argG,q1] at h2;exact .a2 (by omega) a b e h2.1 h2.2
abbrev Ij(e:Qb):Prop:=∀y∈Z2 e,V0 y.f=0
theorem Ij.args{x:Q1}(h:Ij (.mk x)):V0 x=0∧∀a∈x.fArgs,Ij a:=by
 unfold Ij at*;rw[Wn] at h;refine⟨by have:=h (.mk x) (by simp);rwa [Qb.f_mk] at this,fun a ha y hy=>h y ?_⟩
 exact List.mem_cons_of_mem _ (List.mem_flatten.2 ⟨Z2 a,List.mem_map_of_mem ha,hy⟩)
def JS(n:Qd):List Qb→Option (List Q6)
 | []=>some []
 |a::t=>if(kd n a).2≠0 then none else(JS n t).map ((kd n a).1:: ·)
theorem HB(n:Qd):∀l,(match JS n l with | none=>(l.map (kd n)).any (fun r=>r.2 !=0)=true | some ts=>(l.map (kd n)).any (fun r=>r.2 !=0)=false∧l.map (kd n)=ts.map fun t=>(t,(0:Int)))
 | []=>⟨rfl,rfl⟩
 |a::t=>by
  have ih:=HB n t;unfold JS;by_cases h:(kd n a).2=0
  ·rw[if_neg (by simp[h])]
   cases hk:JS n t with
   |none=>rw[hk] at ih;simp only[Option.map_none];rw[List.map_cons,List.any_cons,ih];simp
   |some ts=>
    rw[hk] at ih;simp only[Option.map_some];rw[List.map_cons,List.any_cons,ih.1,ih.2];refine⟨by simp[h],?_⟩
    rw[List.map_cons];congr 1;rw[← h]
  ·rw[if_pos h];simp only;rw[List.map_cons,List.any_cons];simp[h]
theorem R9(c:Q0)(l:List Qb)(hl:l.length≤1000)(ih:∀a∈l,Ze c a.f=some (kd c.fnest a)):∀(t p:List Qb) (ts:List Q6),l=p++t→ts.length≤p.length→QX c zT ts l l.length p.length=some (match JS c.fnest t with | none=>.inr (zT,10) | some us=>.inl (zT,ts++us))
 | [],p,ts,e,_=>by
  have:p.length=l.length:=by rw[e];simp
  rw[QX,if_neg (by omega)];simp[JS]
 |a::t,p,ts,e,hts=>by
  have a3:(p.length:Int)<l.length:=by rw[e];simp;omega
  have h2:=R9 c l hl ih t (p++[a]) (ts++[(kd c.fnest a).1]) (by rw[e];simp) (by simp;omega)
  rw[show((p++[a]).length:Int)=(p.length:Int)+1 by simp] at h2
  rw[QX,if_pos a3,Yi e,omS,bS,ih a (by rw[e];simp),bS,JS]
  by_cases h:(kd c.fnest a).2=0
  ·rw[if_neg (by simp[h]),if_pos (by omega),bS,ZA (by omega) a3 (by omega),h2,if_neg (by simp[h])]
   cases JS c.fnest t<;>simp
  ·rw[if_pos (by simp[h]),if_pos h]
   have:=kd_err c.fnest a h;rw[this]
theorem Ah(n:Qd)(x:Q1)(hl:x.fArgs.length≤1000)(ih:∀a∈x.fArgs,Vh n a.f=some (kd n a)):∀(t p:List Qb) (ts:List Q6),x.fArgs=p++t→ts.length≤p.length→XS n x zT ts p.length=some (match JS n t with | none=>.inr (zT,10) | some us=>.inl (zT,ts++((t.zip us).filter fun q=> !(isC q.1.f)).map (·.2)))
 | [],p,ts,e,_=>by
  have:p.length=x.fArgs.length:=by rw[e];simp
  rw[XS,bS,if_neg (by omega)];simp[JS]
 |a::t,p,ts,e,hts=>by
  have a3:(p.length:Int)<x.fArgs.length:=by rw[e];simp;omega
  have h2:∀a4:List Q6,a4.length≤p.length+1→_:=fun a4 hh=>Ah n x hl ih t (p++[a]) a4 (by rw[e];simp) (by simp;omega)
  rw[show((p++[a]).length:Int)=(p.length:Int)+1 by simp] at h2
  rw[XS,bS,if_pos a3,Yi e,omS,bS,ih a (by rw[e];simp),bS,JS]
  simp only[bS,Da];by_cases h:(kd n a).2=0
  ·rw[if_neg (show ¬((kd n a).2 !=0)=true by simp[h]),ZA (by omega) a3 (by omega),if_neg (show ¬(kd n a).2≠0 by simp[h]),if_pos (show(ts.length+1)*40≤140737488355328∧ts.length+1≤9223372036854775807 by omega)]
   cases hc:isC a.f with
   |true=>
    rw[if_pos rfl,h2 ts (by omega)]
    cases JS n t<;>simp[hc]
   |false=>
    rw[if_neg (by simp),h2 _ (by simp;omega)]
    cases JS n t<;>simp[hc]
  ·rw[if_pos (by simp[h]),if_pos h]
   have:=kd_err n a h;rw[this]<;>rfl
theorem TP(a b:Q6):(!(a.fKind==b.fKind&& (a.fBits==b.fBits&& (a.fFrac==b.fFrac&& (a.fRound==b.fRound&& (a.fOver==b.fOver&&true))))))=decide (a≠b):=by
 cases a;cases b;rw[Bool.eq_iff_iff];simp
theorem Pb{n:Qd}{x:Q1}(h:JS n x.fArgs=none):kd1 n x (x.fArgs.map (kd n))=(zT,10):=by
 have:=HB n x.fArgs;rw[h] at this;unfold kd1;rw[if_pos this]
theorem HC{n:Qd}:∀ {l:List Qb} {ts:List Q6},JS n l=some ts→ts.length=l.length
 | [],ts,h=>by cases h;rfl
 |a::t,ts,h=>by
  unfold JS at h;split at h;·cases h
  ·cases hk:JS n t with
   |none=>rw[hk] at h;cases h
   |some us=>rw[hk] at h;cases h;simp[HC hk]
theorem Pc{n:Qd}{x:Q1}{ts:List Q6}(h:JS n x.fArgs=some ts):kd1 n x (x.fArgs.map (kd n))=if x.fOp=1∨x.fOp=12 then(x.fType,(0:Int)) else if x.fOp=2 then(⟨3,0,0,0,0⟩,0)
 else if x.fOp=3 then(((XK n.fBufs x.fName).getD zBuf).fType,0) else if x.fOp=16∨x.fOp=17∨x.fOp=18 then(zT,0)
 else match ts.reverse with
  | []=>(zT,10)
  | [a]=>(a,0)
  |a::b::_=>if b≠a then(zT,10) else if isC x then(zT,0) else(a,0):=by
 have:=HB n x.fArgs;rw[h] at this;unfold kd1;rw[if_neg (by simp[this.1]),this.2,← List.map_reverse]
 cases ts.reverse with
 |nil=>rfl
 |cons a t=>cases t<;>rfl
theorem Q2x(c:Q0)(hb:okBs c.fnest.fBufs):∀e:Qb,Ij e→Ze c e.f=some (kd c.fnest e):=Qb.ind fun x ih hg=>by
 obtain⟨g1,g2⟩:=hg.args;obtain⟨_,hr,ht⟩:=HL g1;have a4:=ar_of hr ht;have hl:x.fArgs.length≤1000:=by
  have:=(Ep hr).1;unfold NA at this;split at this;·omega
  ·split at this;·omega
   ·split at this<;>omega
 have h0:QX c zT [] x.fArgs x.fArgs.length 0=_:=R9 c x.fArgs hl (fun a ha=>ih a ha (g2 a ha)) x.fArgs [] [] rfl (by simp)
 rw[Qb.f_mk,Ze,Fe];simp only[bS];rw[show(Q6.mk (0:Int) (0:Int) (0:Int) (0:Int) (0:Int))=zT from rfl,h0];cases hk:JS c.fnest x.fArgs with
 |none=>rw[Pb hk];rfl
 |some ts=>
  rw[Pc hk];have a3:=HC hk;simp only[bS,List.nil_append,MU _ _ hb,W3,TP];cases a4 with
  |a0 h e=>rcases h with h | h | h<;>simp[h,bS]
  |a1 h a e _=>
   rw[e] at a3;obtain⟨t,rfl⟩:=len1 (l:=ts) (by simpa using a3)
   rcases h with h | h
   ·simp[h,bS,ix]
   ·simp[h,bS]
  |aN h a e _=>simp[h,bS]
  |aB h a b e _ _=>rcases h with h | h<;>simp[h,bS]
  |aI h a b d e _ _ _=>
   rw[e] at a3;obtain⟨t,u,v,rfl⟩:=len3 (l:=ts) (by simpa using a3)
   have w1:wr (1:Int)=1:=by decide
   have w2:wr (2:Int)=2:=by decide
   have hc:isC x=false:=by simp[isC,h]
   by_cases q:u=v<;>simp[h,bS,ix,w1,w2,q,hc]
  |a2 h a b e _ _=>
   rw[e] at a3;obtain⟨t,u,rfl⟩:=len2 (l:=ts) (by simpa using a3)
   have w1:wr (0:Int)=0:=by decide
   have w2:wr (1:Int)=1:=by decide
   cases hc:isC x<;>by_cases q:t=u<;>simp[h,bS,ix,w1,w2,q]
theorem r_Kind(n:Qd)(hb:okBs n.fBufs):∀e:Qb,Ij e→Vh n e.f=some (kd n e):=Qb.ind fun x ih hg=>by
 obtain⟨g1,g2⟩:=hg.args;obtain⟨_,hr,ht⟩:=HL g1;have a5:=ar_of hr ht;have hl:x.fArgs.length≤1000:=by
  have:=(Ep hr).1;unfold NA at this;split at this;·omega
  ·split at this;·omega
   ·split at this<;>omega
 have h0:XS n x zT [] 0=_:=Ah n x hl (fun a ha=>ih a ha (g2 a ha)) x.fArgs [] [] rfl (by simp)
 rw[Qb.f_mk,Vh,Fe];simp only[bS];rw[show(Q6.mk (0:Int) (0:Int) (0:Int) (0:Int) (0:Int))=zT from rfl,h0];cases hk:JS n x.fArgs with
 |none=>rw[Pb hk];rfl
 |some ts=>
  rw[Pc hk];have a3:=HC hk;simp only[bS,List.nil_append,MW _ _ hb,Da,TP];cases a5 with
  |a0 h e=>
   rw[e] at a3 ⊢;obtain rfl:ts=[]:=List.eq_nil_of_length_eq_zero (by simpa using a3)
   rcases h with h | h | h<;>simp[h,bS]
  |a1 h a e h1=>
   rw[e] at a3 ⊢;obtain⟨t,rfl⟩:=len1 (l:=ts) (by simpa using a3)
   rcases h with h | h
   ·have hc:isC x=false:=by simp[isC,h]
    simp[h,bS,ix,h1,hc]
   ·simp[h,bS,h1]
  |aN h a e h1=>
   rw[e] at a3 ⊢;obtain⟨t,rfl⟩:=len1 (l:=ts) (by simpa using a3)
   have hc:isC x=true:=by simp[isC,h]
   simp[h,bS,h1,hc]
  |aB h a b e h1 h2=>
   rw[e] at a3 ⊢;obtain⟨t,u,rfl⟩:=len2 (l:=ts) (by simpa using a3)
   have hc:isC x=true:=by rcases h with h | h<;>simp[isC,h]
   rcases h with h | h<;>simp[h,bS,h1,h2,hc]
  |aI h a b d e h1 h2 h3=>
   rw[e] at a3 ⊢;obtain⟨t,u,v,rfl⟩:=len3 (l:=ts) (by simpa using a3)
   have hc:isC x=false:=by simp[isC,h]
   by_cases q:u=v<;>simp[h,bS,ix,q,hc,h1,h2,h3]
  |a2 h a b e h1 h2=>
   rw[e] at a3 ⊢;obtain⟨t,u,rfl⟩:=len2 (l:=ts) (by simpa using a3)
   cases hc:isC x<;>by_cases q:t=u<;>simp[h,bS,ix,q,h1,h2]
theorem fstE_0{α:Type}{f:α→Int}:∀ {l:List α},fstE f l=0→∀a∈l,f a=0
 | [],_,a,h=>by cases h
 |b::t,hf,a,h=>by
  rw[fstE] at hf;by_cases hb:f b=0
  ·rw[if_neg (by simp[hb])] at hf
   rcases List.mem_cons.1 h with rfl | h
   ·exact hb
   ·exact fstE_0 hf a h
  ·rw[if_pos hb] at hf;exact absurd hf hb
theorem B8{x:Q1}(h:Ny x=0):Ij (.mk x)∧(Z2 (.mk x)).length≤2000:=by
 unfold Ny at h;split at h;·cases h
 ·split at h;·cases h
  ·exact⟨fstE_0 h,by omega⟩
theorem Pr(c:Q0)(hb:okBs c.fnest.fBufs)(hs:c.fscope.length≤4611686018427387904):∀l:List Qb,(∀a∈l,okE a)→X3 c l=some (fstE (fun y=>VZ c.fnest c.fscope y.f) l)
 | [],_=>rfl
 |a::t,h=>by
  have ha:okE (.mk a.f):=by rw[Qb.mk_f];exact h a (by simp)
  rw[X3,p_node c a.f ha hb hs,bS,Pr c hb hs t (fun b hb=>h b (by simp[hb])),fstE]
  by_cases hp:VZ c.fnest c.fscope a.f=0;·simp[hp]
  ·simp[hp]
theorem MV(c:Q0)(x:Q1)(hx:okE (.mk x))(hb:okBs c.fnest.fBufs)(hs:c.fscope.length≤4611686018427387904):ZI c x=some (JR c.fnest c.fscope x):=by
 unfold ZI JR;rw[Q09 x hx,bS];by_cases h1:Ny x=0
 ·obtain⟨hg,_⟩:=B8 h1;have hk:=Q2x c hb (.mk x) hg;rw[Qb.f_mk] at hk;rw[if_neg (by simp[h1]),if_neg (by simp[h1]),Ls x (aE_of _ hx),bS,Pr c hb hs _ (HG _ hx),bS,hk]
  by_cases h2:fstE (fun y=>VZ c.fnest c.fscope y.f) (Z2 (.mk x))=0
  ·rw[if_pos h2,if_neg (by simp[h2])];rfl
  ·rw[if_neg h2,if_pos h2];rfl
 ·rw[if_pos (by simp[h1]),if_pos h1];rfl
theorem r_All:∀e:Qb,okE e→(Z2 e).length≤100000→Uh e.f=some (Z2 e):=Qb.ind fun x ih hx hn=>by
 obtain⟨_,_,_,hA,a5⟩:=hx.of;rw[Wn,List.length_cons] at hn;have key:∀(t p:List Qb),x.fArgs=p++t→Ka x (.mk x::Yj p) p.length=some (.mk x::Yj x.fArgs):=by
  intro t
  induction t with
  |nil=>
   intro p e;have:p.length=x.fArgs.length:=by rw[e];simp
   rw[Ka,bS,if_neg (by omega)];simp at e;rw[e]
  |cons a t a3=>
   intro p e;have a4:(p.length:Int)<x.fArgs.length:=by rw[e];simp;omega
   have a7:(Yj p).length+(Z2 a).length≤(Yj x.fArgs).length:=by
    rw[e];simp[Yj]
   have a3:=a3 (p++[a]) (by rw[e];simp)
   rw[show((p++[a]).length:Int)=(p.length:Int)+1 by simp,show Yj (p++[a])=Yj p++Z2 a by simp[Yj]] at a3
   have a6:a∈x.fArgs:=by rw[e];simp
   rw[Ka,bS,if_pos a4,Yi e,omS,bS,ih a a6 (a5 a a6) (by omega),bS,if_pos (by rw[List.length_cons,List.length_map];omega),bS,ZA (by omega) a4 (by omega)]
   exact a3
 have h0:Ka x [.mk x] 0=_:=key x.fArgs [] rfl;rw[Qb.f_mk,Uh];simp only[bS];rw[h0,bS,Wn]
theorem HM(n:Qd)(bs:List Qt)(x:Q1)(hx:okE (.mk x))(hb:okBs n.fBufs)(hs:bs.length≤4611686018427387904):JN n bs x=some (JR n (bs.map (·.fName)) x):=by
 unfold JN JR;rw[Q0g x hx,bS];by_cases h1:Ny x=0
 ·obtain⟨hg,a7⟩:=B8 h1;have hk:=r_Kind n hb (.mk x) hg;have hA:=r_All (.mk x) hx (by omega)
  rw[Qb.f_mk] at hk hA;have hL:Xc bs n zT (Z2 (.mk x)) 0=some (if fstE (fun y=>VZ n (bs.map (·.fName)) y.f) (Z2 (.mk x))≠0 then .inr (zT,fstE (fun y=>VZ n (bs.map (·.fName)) y.f) (Z2 (.mk x))) else .inl zT):=by
   refine YQ (α:=Unit) (F:=fun _ i=>Xc bs n zT (Z2 (.mk x)) i) (l:=Z2 (.mk x)) (fun _ _=>True) (fun _ t=>if fstE (fun y=>VZ n (bs.map (·.fName)) y.f) t≠0 then .inr (zT,fstE (fun y=>VZ n (bs.map (·.fName)) y.f) t) else .inl zT) ?_ ?_ () trivial
   ·intro _ _;rw[Xc,bS,if_neg (by omega)];simp[fstE]
   ·intro i y t _ h3 h4 hm a3 _ ih;have hy:okE (.mk y.f):=by rw[Qb.mk_f];exact HG _ hx y hm
    rw[Xc,bS,if_pos h4,a3,omS,bS,r_node n bs y.f hy (HL (hg y hm)).2.1 hb hs,bS,ZA h3 h4 (by omega),ih () trivial,fstE]
    by_cases hz:VZ n (bs.map (·.fName)) y.f=0;·simp[hz]
    ·simp[hz,bS,zT]
  rw[if_neg (by simp[h1]),if_neg (by simp[h1]),hA,bS,bS,show(Q6.mk (0:Int) (0:Int) (0:Int) (0:Int) (0:Int))=zT from rfl,hL,hk]
  by_cases h2:fstE (fun y=>VZ n (bs.map (·.fName)) y.f) (Z2 (.mk x))=0
  ·simp[h2,bS]
  ·simp[h2,bS]
 ·rw[if_pos (by simp[h1]),if_pos h1];rfl
end Go.Proofs.YtolcgikajjkjgaaGreatDoor
end
section
namespace Go.Proofs.YtolcgikajjkjgaaGreatDoor
open Go HY
set_option linter.unusedVariables false
set_option linter.unusedSimpArgs false
theorem ok_rdE{x:Qw}(hx:okS (.mk x)):okE (.mk (rdE x)):=by
 obtain⟨h1,h2,_,_⟩:=hx.of;exact .mk _ ⟨⟨by show(-9223372036854775808:Int)≤0;omega,by show(0:Int)≤9223372036854775807;omega⟩,by simp[rdE],by simp[rdE]⟩ h1 h2 (by simp[rdE]) (by simp[rdE])
theorem Q2g{n:Qd}{sc:List Str}{x:Qw}(h:(JR n sc (rdE x)).2=0):(JR n sc (rdE x)).1=((XK n.fBufs x.fName).getD zBuf).fType:=by
 unfold JR at h ⊢;split at h;·rename_i h1;exact absurd h h1
 ·rename_i h1;rw[if_neg h1];split at h;·rename_i h2;exact absurd h h2
  ·rename_i h2;rw[if_neg h2,Fe];simp[kd1,rdE]
theorem foldQ(x:Qw):(if(x.fOp==(3:Int))=true then if x.fFold< (1:Int) then some true else if(4:Int)<x.fFold then some true else some false else some false)=some (decide (x.fOp=3∧(x.fFold<1∨4<x.fFold))):=by
 by_cases h1:x.fOp=3<;>by_cases h2:x.fFold<1<;>by_cases h3:4<x.fFold<;>simp[h1,h2,h3]
theorem p_store(c:Q0)(x:Qw)(hx:okS (.mk x))(hb:okBs c.fnest.fBufs)(hs:c.fscope.length≤4611686018427387904):Vg c x=some (L2 c.fnest c.fscope x):=by
 obtain⟨_,_,hE,_⟩:=hx.of;unfold Vg L2;rw[bS,show(KG.mk (3:Int) x.fName (gVal.mk (0:Int) (0:Int)) (Q6.mk (0:Int) (0:Int) (0:Int) (0:Int) (0:Int)) (gLin.mk (0:Int) []) x.fIdx []:Q1)=rdE x from rfl,MV c (rdE x) (ok_rdE hx) hb hs,bS,MU _ _ hb,foldQ,MV c x.fExpr hE hb hs];simp only[bS,W3,TP];have hk:= @Q2g c.fnest c.fscope x;generalize JR c.fnest c.fscope (rdE x)=E1 at hk ⊢;generalize JR c.fnest c.fscope x.fExpr=E2
 generalize (XK c.fnest.fBufs x.fName).getD zBuf=B at hk ⊢;by_cases h1:E1.2=0
 ·rw[hk h1];by_cases h2:B.fUse=1;·simp[h1,h2]
  ·by_cases h3:x.fOp=3∧(x.fFold<1∨4<x.fFold);·simp[h1,h2,h3]
   ·by_cases h4:E2.2=0;·cases hc:isC x.fExpr<;>by_cases h5:E2.1=B.fType<;>simp[h1,h2,h3,h4,h5,bS]
    ·simp[h1,h2,h3,h4]
 ·simp[h1]
theorem r_store(n:Qd)(bs:List Qt)(x:Qw)(hx:okS (.mk x))(hb:okBs n.fBufs)(hs:bs.length≤4611686018427387904):CZ n bs x=some (L2 n (bs.map (·.fName)) x):=by
 obtain⟨_,_,hE,_⟩:=hx.of;unfold CZ L2;rw[bS,show(KG.mk (3:Int) x.fName (gVal.mk (0:Int) (0:Int)) (Q6.mk (0:Int) (0:Int) (0:Int) (0:Int) (0:Int)) (gLin.mk (0:Int) []) x.fIdx []:Q1)=rdE x from rfl,HM n bs (rdE x) (ok_rdE hx) hb hs,bS,MW _ _ hb,foldQ,HM n bs x.fExpr hE hb hs];simp only[bS,Da,TP];generalize JR n (bs.map (·.fName)) (rdE x)=E1;generalize JR n (bs.map (·.fName)) x.fExpr=E2;generalize (XK n.fBufs x.fName).getD zBuf=B
 by_cases h1:E1.2=0
 ·by_cases h2:B.fUse=1;·simp[h1,h2,bS]
  ·by_cases h3:x.fOp=3∧(x.fFold<1∨4<x.fFold);·simp[h1,h2,h3,bS]
   ·by_cases h4:E2.2=0;·cases hc:isC x.fExpr<;>by_cases h5:E2.1=B.fType<;>simp[h1,h2,h3,h4,h5,bS]
    ·simp[h1,h2,h3,h4,bS]
 ·simp[h1]
theorem manyQ(x:Qw):(if x.fMany< (1:Int) then some true else if(65536:Int)<x.fMany then some true else if x.fMark< (0:Int) then some true else if(3:Int)<x.fMark then some true else some false)=some (decide (x.fMany<1∨65536<x.fMany∨x.fMark<0∨3<x.fMark)):=by
 by_cases h1:x.fMany<1<;>by_cases h2:65536<x.fMany<;>by_cases h3:x.fMark<0<;>by_cases h4:3<x.fMark<;>simp[h1,h2,h3,h4]
theorem p_loop(c:Q0)(x:Qw)(hb:okBs c.fnest.fBufs)(hs:c.floops.length≤4611686018427387904):Vz c x=some (Ei c.fnest c.floops x):=by
 unfold Vz Ei;rw[Iv,bS,MU _ _ hb,Iu _ _ hs,manyQ];cases h1:nm x.fName with
 |false=>simp
 |true=>
  cases h2:(XK c.fnest.fBufs x.fName).isSome<;>cases h3:c.floops.contains x.fName<;>simp only[bS,WY,Cc,Bool.or_true,Bool.or_false]
  ·by_cases h4:x.fMany<1∨65536<x.fMany∨x.fMark<0∨3<x.fMark<;>simp[h4]
  all_goals simp
theorem s_Has(l:List Str)(s:Str)(hl:l.length≤1048576):GJ l s=some (l.contains s):=by
 unfold GJ;rw[bS,IS l s hl,bS];cases l.contains s<;>rfl
theorem OI(c:Q0)(x:Qw)(hx:okS (.mk x))(hb:okBs c.fnest.fBufs)(hs:c.fscope.length≤4611686018427387904)(hu:c.floops.length≤4611686018427387904):K9 c x=some (UE c.fnest c.fscope c.floops x):=by
 obtain⟨_,_,hE,_⟩:=hx.of;unfold K9 UE;rw[p_plain,bS,p_loop c x hb hu,MV c x.fExpr hE hb hs,W3,p_store c x hx hb hs];cases h1:plS x with
 |false=>simp
 |true=>
  by_cases h2:x.fOp=1;·simp[h2,bS]
  ·by_cases h3:x.fOp=4
   ·by_cases h4:(JR c.fnest c.fscope x.fExpr).2=0;·cases h5:isC x.fExpr<;>simp[h3,h4,bS]
    ·simp[h3,h4,bS]
   ·simp[h2,h3,bS]
theorem r_one(n:Qd)(bs:List Qt)(a3:List Str)(x:Qw)(hx:okS (.mk x))(hb:okBs n.fBufs)(hs:bs.length≤4611686018427387904)(hu:a3.length≤1048576):Nv n bs a3 x=some (UE n (bs.map (·.fName)) a3 x):=by
 obtain⟨_,_,hE,_⟩:=hx.of;unfold Nv UE;rw[Q34,bS,MW _ _ hb,bS,CN,bS,manyQ,s_Has _ _ hu,HM n bs x.fExpr hE hb hs,Da,r_store n bs x hx hb hs];cases h1:plS x with
 |false=>simp
 |true=>
  by_cases h2:x.fOp=1
  ·unfold Ei;cases h3:nm x.fName with
   |false=>simp[h2]
   |true=>
    cases h4:(XK n.fBufs x.fName).isSome<;>cases h5:a3.contains x.fName
    ·by_cases h6:x.fMany<1∨65536<x.fMany∨x.fMark<0∨3<x.fMark<;>simp[h2,h6,bS]
    all_goals simp[h2,bS]
  ·by_cases h3:x.fOp=4
   ·by_cases h4:(JR n (bs.map (·.fName)) x.fExpr).2=0;·cases h5:isC x.fExpr<;>simp[h3,h4,bS]
    ·simp[h3,h4,bS]
   ·simp[h2,h3,bS]
end Go.Proofs.YtolcgikajjkjgaaGreatDoor
end
section
namespace Go.Proofs.YtolcgikajjkjgaaGreatDoor
open Go HY
set_option linter.unusedVariables false
set_option linter.unusedSimpArgs false
def bdT(n:Qd)(sc:List Str)(a4:List Int)(l:List Qe)(i:Int)(a3:List Str):Fl:=bdL n sc a4 (l.map fun a=>(a.f,bd n a)) i a3
theorem SB(n:Qd)(sc:List Str)(a4:List Int)(i:Int)(a3:List Str):bdT n sc a4 [] i a3=(a3,[],0):=rfl
theorem Id(n:Qd)(sc:List Str)(a4:List Int)(a:Qe)(t:List Qe)(i:Int)(a3:List Str):bdT n sc a4 (a::t) i a3=
  if UE n sc a3 a.f≠0 then([],a4++[i],UE n sc a3 a.f)
  else if a.f.fOp=1 then(if(bdB n (sc++[a.f.fName]) (a4++[i]) a.f.fBody (a3++[a.f.fName])).2.2≠0 then bdB n (sc++[a.f.fName]) (a4++[i]) a.f.fBody (a3++[a.f.fName]) else bdT n sc a4 t (i+1) (bdB n (sc++[a.f.fName]) (a4++[i]) a.f.fBody (a3++[a.f.fName])).1)
  else(if(bdB n sc (a4++[i]) a.f.fBody a3).2.2≠0 then bdB n sc (a4++[i]) a.f.fBody a3 else bdT n sc a4 t (i+1) (bdB n sc (a4++[i]) a.f.fBody a3).1):=by
 show bdL n sc a4 ((a.f,bd n a)::t.map fun a=>(a.f,bd n a)) i a3=_
 rw[bdL,bd_f,bd_f];rfl
theorem bdB_T(n:Qd)(sc:List Str)(a4:List Int)(l:List Qe)(a3:List Str):bdB n sc a4 l a3=bdT n sc a4 l 0 a3:=rfl
theorem FZ(a:Qe)(t:List Qe):dpL (a::t)=max (dp a) (dpL t):=rfl
theorem B4(n:Qd):∀l,okSs l→∀(sc:List Str) (a4:List Int) (a3:List Str),(bdB n sc a4 l a3).1.length≤a3.length+szL l:=Gg fun l hl ih sc a4 a3=>by
 have key:∀(t:List Qe),(∀s∈t,s∈l)→∀(i:Int) (a3:List Str),(bdT n sc a4 t i a3).1.length≤a3.length+szL t:=by
  intro t
  induction t with
  |nil=>intro _ i a3;rw[SB];simp
  |cons a t iht=>
   intro hm i a3;have h2:=iht (fun s hs=>hm s (by simp[hs]))
   rw[Id,IB,sz_f];split;·simp
   ·split
    ·split;·have:=ih a (hm a (by simp)) (sc++[a.f.fName]) (a4++[i]) (a3++[a.f.fName]);simp at this ⊢;omega
     ·have:=ih a (hm a (by simp)) (sc++[a.f.fName]) (a4++[i]) (a3++[a.f.fName])
      have:=h2 (i+1) (bdB n (sc++[a.f.fName]) (a4++[i]) a.f.fBody (a3++[a.f.fName])).1;simp at*;omega
    ·split;·have:=ih a (hm a (by simp)) sc (a4++[i]) a3;omega
     ·have:=ih a (hm a (by simp)) sc (a4++[i]) a3
      have:=h2 (i+1) (bdB n sc (a4++[i]) a.f.fBody a3).1;omega
 exact key l (fun _ h=>h) 0 a3
theorem B5(n:Qd):∀l,okSs l→∀(sc:List Str) (a4:List Int) (a3:List Str),((bdB n sc a4 l a3).2.2=0→(bdB n sc a4 l a3).2.1=[])∧((bdB n sc a4 l a3).2.2≠0→(bdB n sc a4 l a3).1=[]):=Gg fun l hl ih sc a4 a3=>by
 have key:∀(t:List Qe),(∀s∈t,s∈l)→∀(i:Int) (a3:List Str),((bdT n sc a4 t i a3).2.2=0→(bdT n sc a4 t i a3).2.1=[])∧((bdT n sc a4 t i a3).2.2≠0→(bdT n sc a4 t i a3).1=[]):=by
  intro t
  induction t with
  |nil=>intro _ i a3;exact⟨fun _=>rfl,fun h=>absurd rfl h⟩
  |cons a t iht=>
   intro hm i a3;have h2:=iht (fun s hs=>hm s (by simp[hs]))
   rw[Id];split;·rename_i h;exact⟨fun h'=>absurd h' h,fun _=>rfl⟩
   ·split
    ·split;·exact ih a (hm a (by simp)) _ _ _
     ·exact h2 _ _
    ·split;·exact ih a (hm a (by simp)) _ _ _
     ·exact h2 _ _
 exact key l (fun _ h=>h) 0 a3
theorem p_body(n:Qd)(hb:okBs n.fBufs):∀l,okSs l→∀c:Q0,c.fnest=n→c.fscope.length+dpL l≤1000→c.fpath.length+dpL l≤1000→c.floops.length+szL l≤100000→
  wp (QP c l) (fun r=>r.1=(bdB n c.fscope c.fpath l c.floops).2.2∧(r.1≠0→r.2.fpath=(bdB n c.fscope c.fpath l c.floops).2.1)∧(r.1=0→r.2=⟨n,(bdB n c.fscope c.fpath l c.floops).1,c.fscope,c.fpath⟩)):=Gg fun l hl ih c hn ay au b1=>by
 have e1:=hl.1;have b5:l.length≤4611686018427387904:=by omega
 have key:∀(t p:List Qe),l=p++t→∀c:Q0,c.fnest=n→c.fscope.length+dpL t≤1000→c.fpath.length+dpL t≤1000→c.floops.length+szL t≤100000→
   wp (QE c l l.length p.length) (fun o=>((bdT n c.fscope c.fpath t p.length c.floops).2.2=0∧o= .inl ⟨n,(bdT n c.fscope c.fpath t p.length c.floops).1,c.fscope,c.fpath⟩)∨((bdT n c.fscope c.fpath t p.length c.floops).2.2≠0∧∃c',o= .inr (c',(bdT n c.fscope c.fpath t p.length c.floops).2.2)∧c'.fpath=(bdT n c.fscope c.fpath t p.length c.floops).2.1)):=by
  intro t
  induction t with
  |nil=>
   intro p e c hn _ _ _;have:p.length=l.length:=by rw[e];simp
   rw[QE,if_neg (by omega),SB]
   obtain⟨cn,cl,cs,cp⟩:=c;cases hn;exact ZE.2 (.inl ⟨rfl,rfl⟩)
  |cons a t ab=>
   intro p e c hn h1 h2 h3;obtain⟨cn,cl,cs,cp⟩:=c;simp only at hn h1 h2 h3;subst hn;have ag:(p.length:Int)<l.length:=by rw[e];simp;omega
   have ac:a∈l:=by rw[e];simp
   have ap:okS (.mk a.f):=by rw[Qe.mk_f];exact hl.2 a ac
   rw[FZ,dp_f] at h1 h2;rw[IB,sz_f] at h3;have ab:=ab (p++[a]) (by rw[e];simp)
   rw[show(((p++[a]).length:Nat):Int)=(p.length:Int)+1 by simp] at ab
   have ah:=OI ⟨cn,cl,cs,cp++[(p.length:Int)]⟩ a.f ap hb (show cs.length≤_ by omega) (show cl.length≤_ by omega)
   simp only at ah;rw[QE,if_pos ag,Yi e,omS,bS,Id];simp only;rw[if_pos ⟨by omega,by omega⟩,bS,ah,bS]
   by_cases hs:UE cn cs cl a.f=0
   ·have aw:¬((UE cn cs cl a.f !=(0:Int))=true):=by simp[hs]
    have ax:¬(UE cn cs cl a.f≠0):=by simp[hs]
    rw[if_neg aw,bS,bS];simp only[if_neg ax];have rest:∀(c1:Q0) (a4 a3:List Str),c1=⟨cn,a3,a4,cp++[(p.length:Int)]⟩→(∃x,a4=cs++x)→a4.length+dpL a.f.fBody≤1000→a3.length+(szL a.f.fBody+szL t)≤100000→
      wp (QP c1 a.f.fBody>>=fun v7=>if(v7.fst !=(0:Int))=true then some (.inr (v7.snd,v7.fst)) else if True∧(0:Int)≤(cs.length:Int)∧(cs.length:Int)≤(v7.snd.fscope.length:Int) then
       if List.length (List.take (cs.length:Int).toNat v7.snd.fscope)=(cs.length:Int).toNat then
       some (List.take (cs.length:Int).toNat v7.snd.fscope)>>=fun v8=>
       if True∧(0:Int)≤wr ((v7.snd.fpath.length:Int) - (1:Int))∧wr ((v7.snd.fpath.length:Int) - (1:Int))≤(v7.snd.fpath.length:Int) then
       some ((v7.snd.fpath.length:Int):Int)>>=fun v9=>
       if List.length (List.take ((wr ((v7.snd.fpath.length:Int) - (1:Int))).toNat) v7.snd.fpath)=((wr ((v7.snd.fpath.length:Int) - (1:Int))).toNat) then
       some (List.take ((wr ((v7.snd.fpath.length:Int) - (1:Int))).toNat) v7.snd.fpath)>>=fun b2=>
       QE (Q0.mk v7.snd.fnest v7.snd.floops v8 b2) l l.length (wr ((p.length:Int)+(1:Int)))
       else none else none else none else none)
      (fun o=>((if(bdB cn a4 (cp++[(p.length:Int)]) a.f.fBody a3).2.2≠0 then bdB cn a4 (cp++[(p.length:Int)]) a.f.fBody a3 else bdT cn cs cp t ((p.length:Int)+1) (bdB cn a4 (cp++[(p.length:Int)]) a.f.fBody a3).1).2.2=0∧o= .inl ⟨cn,(if(bdB cn a4 (cp++[(p.length:Int)]) a.f.fBody a3).2.2≠0 then bdB cn a4 (cp++[(p.length:Int)]) a.f.fBody a3 else bdT cn cs cp t ((p.length:Int)+1) (bdB cn a4 (cp++[(p.length:Int)]) a.f.fBody a3).1).1,cs,cp⟩)∨
       ((if(bdB cn a4 (cp++[(p.length:Int)]) a.f.fBody a3).2.2≠0 then bdB cn a4 (cp++[(p.length:Int)]) a.f.fBody a3 else bdT cn cs cp t ((p.length:Int)+1) (bdB cn a4 (cp++[(p.length:Int)]) a.f.fBody a3).1).2.2≠0∧∃c',o= .inr (c',(if(bdB cn a4 (cp++[(p.length:Int)]) a.f.fBody a3).2.2≠0 then bdB cn a4 (cp++[(p.length:Int)]) a.f.fBody a3 else bdT cn cs cp t ((p.length:Int)+1) (bdB cn a4 (cp++[(p.length:Int)]) a.f.fBody a3).1).2.2)∧c'.fpath=(if(bdB cn a4 (cp++[(p.length:Int)]) a.f.fBody a3).2.2≠0 then bdB cn a4 (cp++[(p.length:Int)]) a.f.fBody a3 else bdT cn cs cp t ((p.length:Int)+1) (bdB cn a4 (cp++[(p.length:Int)]) a.f.fBody a3).1).2.1)):=by
     intro c1 a4 a3 hc1 ⟨xs,ai⟩ k1 k2;subst hc1;obtain⟨r,er,a9,aa,a7⟩:=ih a ac ⟨cn,a3,a4,cp++[(p.length:Int)]⟩ rfl (show a4.length+_≤1000 by omega) (show(cp++[(p.length:Int)]).length+_≤1000 by simp;omega) (show a3.length+_≤100000 by omega)
     have aq:=B4 cn a.f.fBody (hl.2 a ac).f a4 (cp++[(p.length:Int)]) a3;simp only at a9 aa a7;generalize bdB cn a4 (cp++[(p.length:Int)]) a.f.fBody a3=B at a9 aa a7 aq ⊢;obtain⟨r1,r2⟩:=r;simp only at a9 aa a7;subst a9;rw[er,bS];simp only;by_cases hB:B.2.2=0
     ·have a7:=a7 hB;subst a7;have am:¬((B.2.2 !=(0:Int))=true):=by simp[hB]
      have ao:¬(B.2.2≠0):=by simp[hB]
      rw[if_neg am];simp only[if_neg ao];have hw:wr (((cp++[(p.length:Int)]).length:Nat) - 1:Int)=(cp.length:Int):=by rw[Zw (by simp;omega)];simp
      have az:List.take (cs.length:Int).toNat a4=cs:=by rw[ai];simp
      have b0:List.take (cp.length:Int).toNat (cp++[(p.length:Int)])=cp:=by simp
      rw[az,hw,b0,if_pos (show True∧(0:Int)≤cs.length∧(cs.length:Int)≤a4.length from⟨trivial,by omega,by rw[ai];simp;omega⟩),if_pos (show List.length cs=(cs.length:Int).toNat by simp),bS,if_pos (show True∧(0:Int)≤cp.length∧(cp.length:Int)≤((cp++[(p.length:Int)]).length:Nat) from⟨trivial,by omega,by simp;omega⟩),bS,if_pos (show List.length cp=(cp.length:Int).toNat by simp),bS,ZA (by omega) ag (by omega)]
      exact ab ⟨cn,B.1,cs,cp⟩ rfl (show cs.length+_≤1000 by omega) (show cp.length+_≤1000 by omega) (show B.1.length+_≤100000 by omega)
     ·rw[if_pos (show(B.2.2 !=(0:Int))=true by simp[hB])]
      simp only[if_pos (show B.2.2≠0 from hB)];exact ZE.2 (.inr ⟨hB,r2,rfl,aa hB⟩)
    by_cases hop:a.f.fOp=1
    ·rw[if_pos (show(a.f.fOp==(1:Int))=true by simp[hop]),if_pos (show(cl.length+1)*16≤140737488355328∧cl.length+1≤9223372036854775807 from⟨by omega,by omega⟩),if_pos (show(cs.length+1)*16≤140737488355328∧cs.length+1≤9223372036854775807 from⟨by omega,by omega⟩),bS]
     simp only[if_pos hop];exact rest _ _ _ rfl ⟨_,rfl⟩ (by simp;omega) (by simp;omega)
    ·rw[if_neg (show ¬((a.f.fOp==(1:Int))=true) by simp[hop]),bS]
     simp only[if_neg hop];exact rest _ _ _ rfl ⟨[],by simp⟩ (by omega) (by omega)
   ·rw[if_pos (show(UE cn cs cl a.f !=(0:Int))=true by simp[hs])]
    simp only[if_pos (show UE cn cs cl a.f≠0 from hs)];exact ZE.2 (.inr ⟨hs,_,rfl,rfl⟩)
 have h0:=key l [] rfl c hn ay au b1;obtain⟨o,eo,ho⟩:=h0;rw[QP];simp only[bS];rw[show((List.length ([]:List Qe):Nat):Int)=0 from rfl] at eo ho;rw[eo,bS,bdB_T];rcases ho with⟨h1,rfl⟩ | ⟨h1,c',rfl,h2⟩
 ·exact ZE.2 ⟨h1.symm,fun h=>absurd rfl h,fun _=>rfl⟩
 ·exact ZE.2 ⟨rfl,fun _=>h2,fun h=>absurd h h1⟩
theorem p_valid(n:Qd)(hb:okBs n.fBufs)(hl:okSs n.fBody):UD n=some (vd n):=by
 unfold UD vd;rw[Q2y _ hl 40 (by omega) (by omega),bS]
 by_cases h1:dpL n.fBody≤40
 ·obtain⟨k,ek,a7,a8,_⟩:=p_count _ hl 2000 (by omega) (by omega)
  rw[if_pos (by simp;omega),if_neg (by omega),bS,ek,bS]
  by_cases h2:2000<szL n.fBody;·rw[if_pos (by omega),bS,if_pos rfl,if_pos (.inl h2)]
  ·rw[if_neg (by omega),bS]
   by_cases h3:128<n.fBufs.length;·rw[if_pos (by omega),bS,if_pos rfl,if_pos (.inr h3)]
   ·rw[if_neg (by omega),bS,if_neg (by simp),p_bufs _ hb.1,bS,if_neg (show ¬(2000<szL n.fBody∨128<n.fBufs.length) by omega)]
    by_cases h4:Ke [] n.fBufs=0
    ·obtain⟨r,er,q1,q2,q3⟩:=p_body n hb _ hl ⟨n,[],[],[]⟩ rfl (show 0+_≤1000 by omega) (show 0+_≤1000 by omega) (show 0+_≤100000 by omega)
     simp only at q1 q2 q3;have a3:(bdB n [] [] n.fBody []).2.2=0→(bdB n [] [] n.fBody []).2.1=[]:=(B5 n _ hl _ _ _).1;rw[if_neg (by simp[h4]),if_neg (by simp[h4]),er,bS,q1]
     by_cases h5:(bdB n [] [] n.fBody []).2.2=0;·rw[if_neg (by simp[h5]),a3 h5,h5]
     ·rw[if_pos (by simp[h5]),q2 (by rw[q1];exact h5)]
    ·rw[if_pos (by simp[h4]),if_pos (by simp[h4])]
 ·rw[if_neg (by simp;omega),if_pos (by omega)]
theorem r_body(n:Qd)(hb:okBs n.fBufs):∀l,okSs l→∀(bs:List Qt) (a4:List Str) (a5:List Int),bs.length+dpL l≤1000→a5.length+dpL l≤1000→a4.length+szL l≤100000→
  Vi n bs a4 l a5=some ⟨(bdB n (bs.map (·.fName)) a5 l a4).1,(bdB n (bs.map (·.fName)) a5 l a4).2.1,(bdB n (bs.map (·.fName)) a5 l a4).2.2⟩:=Gg fun l hl ih bs a4 a5 ah ae ai=>by
 have e1:=hl.1;have ak:l.length≤4611686018427387904:=by omega
 have key:∀(t p:List Qe),l=p++t→∀(a4:List Str),bs.length+dpL t≤1000→a5.length+dpL t≤1000→a4.length+szL t≤100000→
   YD bs a4 l a5 n ⟨[],[],0⟩ p.length=some (if(bdT n (bs.map (·.fName)) a5 t p.length a4).2.2=0 then .inl ((bdT n (bs.map (·.fName)) a5 t p.length a4).1,⟨[],[],0⟩) else .inr ⟨(bdT n (bs.map (·.fName)) a5 t p.length a4).1,(bdT n (bs.map (·.fName)) a5 t p.length a4).2.1,(bdT n (bs.map (·.fName)) a5 t p.length a4).2.2⟩):=by
  intro t
  induction t with
  |nil=>
   intro p e a4 _ _ _;have:p.length=l.length:=by rw[e];simp
   rw[YD,bS,if_neg (by omega),SB];rfl
  |cons a t a7=>
   intro p e a4 h1 h2 h3;have aa:(p.length:Int)<l.length:=by rw[e];simp;omega
   have a8:a∈l:=by rw[e];simp
   have ac:okS (.mk a.f):=by rw[Qe.mk_f];exact hl.2 a a8
   rw[FZ,dp_f] at h1 h2;rw[IB,sz_f] at h3;have a7:=a7 (p++[a]) (by rw[e];simp)
   rw[show(((p++[a]).length:Nat):Int)=(p.length:Int)+1 by simp] at a7
   rw[YD,bS,if_pos aa,Yi e];simp only[omS,bS];rw[if_pos ⟨trivial,by simp;omega,by simp;omega⟩]
   simp only[List.nil_append];rw[if_pos ⟨by omega,by omega⟩,r_one n bs a4 a.f ac hb (by omega) (by omega),bS,Id]
   by_cases hs:UE n (bs.map (·.fName)) a4 a.f=0
   ·have af:¬((UE n (bs.map (·.fName)) a4 a.f !=(0:Int))=true):=by simp[hs]
    have ag:¬(UE n (bs.map (·.fName)) a4 a.f≠0):=by simp[hs]
    rw[if_neg af];simp only[if_neg ag];have rest:∀(a6:List Qt) (a3:List Str),a6.length+dpL a.f.fBody≤1000→a3.length+(szL a.f.fBody+szL t)≤100000→
      (Vi n a6 a3 a.f.fBody (a5++[(p.length:Int)])>>=fun a9=>if(a9.fE !=(0:Int))=true then some (.inr a9) else YD bs a9.fUsed l a5 n ⟨[],[],0⟩ (wr ((p.length:Int)+(1:Int))))=
      some (if(if(bdB n (a6.map (·.fName)) (a5++[(p.length:Int)]) a.f.fBody a3).2.2≠0 then bdB n (a6.map (·.fName)) (a5++[(p.length:Int)]) a.f.fBody a3 else bdT n (bs.map (·.fName)) a5 t ((p.length:Int)+1) (bdB n (a6.map (·.fName)) (a5++[(p.length:Int)]) a.f.fBody a3).1).2.2=0
       then .inl ((if(bdB n (a6.map (·.fName)) (a5++[(p.length:Int)]) a.f.fBody a3).2.2≠0 then bdB n (a6.map (·.fName)) (a5++[(p.length:Int)]) a.f.fBody a3 else bdT n (bs.map (·.fName)) a5 t ((p.length:Int)+1) (bdB n (a6.map (·.fName)) (a5++[(p.length:Int)]) a.f.fBody a3).1).1,⟨[],[],0⟩)
       else .inr ⟨(if(bdB n (a6.map (·.fName)) (a5++[(p.length:Int)]) a.f.fBody a3).2.2≠0 then bdB n (a6.map (·.fName)) (a5++[(p.length:Int)]) a.f.fBody a3 else bdT n (bs.map (·.fName)) a5 t ((p.length:Int)+1) (bdB n (a6.map (·.fName)) (a5++[(p.length:Int)]) a.f.fBody a3).1).1,
        (if(bdB n (a6.map (·.fName)) (a5++[(p.length:Int)]) a.f.fBody a3).2.2≠0 then bdB n (a6.map (·.fName)) (a5++[(p.length:Int)]) a.f.fBody a3 else bdT n (bs.map (·.fName)) a5 t ((p.length:Int)+1) (bdB n (a6.map (·.fName)) (a5++[(p.length:Int)]) a.f.fBody a3).1).2.1,
        (if(bdB n (a6.map (·.fName)) (a5++[(p.length:Int)]) a.f.fBody a3).2.2≠0 then bdB n (a6.map (·.fName)) (a5++[(p.length:Int)]) a.f.fBody a3 else bdT n (bs.map (·.fName)) a5 t ((p.length:Int)+1) (bdB n (a6.map (·.fName)) (a5++[(p.length:Int)]) a.f.fBody a3).1).2.2⟩):=by
     intro a6 a3 k1 k2;have hr:=ih a a8 a6 a3 (a5++[(p.length:Int)]) (by omega) (by simp;omega) (by omega)
     have ad:=B4 n a.f.fBody (hl.2 a a8).f (a6.map (·.fName)) (a5++[(p.length:Int)]) a3;rw[hr,bS];generalize bdB n (a6.map (·.fName)) (a5++[(p.length:Int)]) a.f.fBody a3=B at ad ⊢;by_cases hB:B.2.2=0
     ·rw[if_neg (show ¬((B.2.2 !=(0:Int))=true) by simp[hB])]
      simp only[if_neg (show ¬(B.2.2≠0) by simp[hB])]
      rw[ZA (by omega) aa (by omega)]
      exact a7 B.1 (by omega) (by omega) (by omega)
     ·rw[if_pos (show(B.2.2 !=(0:Int))=true by simp[hB])]
      simp only[if_pos (show B.2.2≠0 from hB)];rw[if_neg hB]
    by_cases hop:a.f.fOp=1
    ·rw[if_pos (show(a.f.fOp==(1:Int))=true by simp[hop])]
     simp only[if_pos hop];rw[if_pos ⟨trivial,by simp;omega,by simp;omega⟩,if_pos ⟨by simp,by simp;omega,by simp;omega⟩,if_pos ⟨trivial,by simp;omega,by simp;omega⟩,if_pos ⟨by simp,by simp;omega,by simp;omega⟩]
     simp only[bS];rw[Yi e,omS,bS];have:=rest (bs++[⟨a.f.fName,a.f.fMany⟩]) (a4++[a.f.fName]) (by simp;omega) (by simp;omega)
     simp only[List.map_append,List.map_cons,List.map_nil] at this;exact this
    ·rw[if_neg (show ¬((a.f.fOp==(1:Int))=true) by simp[hop])]
     simp only[if_neg hop,bS];rw[Yi e,omS,bS];exact rest bs a4 (by omega) (by omega)
   ·rw[if_pos (show(UE n (bs.map (·.fName)) a4 a.f !=(0:Int))=true by simp[hs])]
    simp only[if_pos (show UE n (bs.map (·.fName)) a4 a.f≠0 from hs)];rw[if_neg hs]
 have h0:=key l [] rfl a4 ah ae ai;rw[Vi];simp only[bS];rw[show((List.length ([]:List Qe):Nat):Int)=0 from rfl] at h0;rw[h0,bS,bdB_T];have hw:=B5 n l hl (bs.map (·.fName)) a5 a4;rw[bdB_T] at hw;by_cases hz:(bdT n (bs.map (·.fName)) a5 l 0 a4).2.2=0
 ·rw[if_pos hz];simp only[bS];rw[hw.1 hz,hz]
 ·rw[if_neg hz]
theorem r_valid(n:Qd)(hb:okBs n.fBufs)(hl:okSs n.fBody):GR n=some (vd n):=by
 unfold GR vd;rw[Q31 _ hl 41 (by omega) (by omega),bS]
 by_cases h1:dpL n.fBody≤40
 ·obtain⟨k,ek,a5,a6,_⟩:=r_sizeS _ hl 2000 (by omega) (by omega)
  rw[if_neg (by omega),if_neg (by omega),bS,ek,bS]
  by_cases h2:2000<szL n.fBody;·rw[if_pos (by omega),bS,if_pos rfl,if_pos (.inl h2)]
  ·rw[if_neg (by omega),bS]
   by_cases h3:128<n.fBufs.length;·rw[if_pos (by omega),bS,if_pos rfl,if_pos (.inr h3)]
   ·rw[if_neg (by omega),bS,if_neg (by simp),r_bufs _ hb.1,bS,if_neg (show ¬(2000<szL n.fBody∨128<n.fBufs.length) by omega)]
    by_cases h4:Ke [] n.fBufs=0;·rw[if_neg (by simp[h4]),if_neg (by simp[h4]),r_body n hb _ hl [] [] [] (show 0+_≤1000 by omega) (show 0+_≤1000 by omega) (show 0+_≤100000 by omega),bS];rfl
    ·rw[if_pos (by simp[h4]),if_pos (by simp[h4])]
 ·rw[if_pos (by omega),if_pos (by omega)]
end Go.Proofs.YtolcgikajjkjgaaGreatDoor
end
section
namespace HY
open Go Go.RowKit
structure COk (P:Program) (gl:Nat→AV) (fv:Value) (xs:List (List AV)) (J:JT):Prop where
 base:JOk P gl 0 [] J
 call:∀k O Hc w x (vs:Array Value),J (some k) O Hc w→xs[k]? =some x→x.length=vs.size→(∀(j:Nat) (c:AV) (v:Value),x[j]? =some c→vs[j]? =some v→RelI Hc c v)→
  ∃g us,fv= .func (.func g) #[] us∧Ans P g (vs++us) w fun e w'=>∃v O' Hc',e= .returned v∧(∀H,RelI H (.tup []) v)∧JIn J O Hc w (some (k+1)) O' Hc' w'
structure CF (P:Program) (gl:Nat→AV) (fv:Value) (xs:List (List AV)) (f:Nat) (args:List AV) (p m:Nat):Prop where
 ok:∀J,COk P gl fv xs J→∀Hc w (vs:Array Value),J (some p) (fun _=>False) Hc w→args.length=vs.size→(∀(j:Nat) (c:AV) (v:Value),args[j]? =some c→vs[j]? =some v→RelI Hc c v)→
  Ans P f vs w fun e w'=>∃v O' Hc',e= .returned v∧(∀H,RelI H (.tup []) v)∧J (some m) O' Hc' w'
section
variable {P : Program} {gl : Nat → AV} {fv : Value} {xs : List (List AV)} {J : JT}
structure CL (P:Program) (gl:Nat→AV) (fv:Value) (xs:List (List AV)) (n:Nat) (c:Code) (ks:List Nat) (vs:List AV) (bs:List Box) (p:Nat) (kx:List Nat) (x:Exit×List AV) (m:Nat):Prop where
 ok:∀J,COk P gl fv xs J→∀(a:Act) (w:World),Fr gl J (some p) (Qz n ks vs bs) a.tmps w→wpL P none 0 c (fun e a' w'=>∃st',(e=x.1∧st'=Qz n kx x.2 [])∧a'.defers=a.defers∧Fr gl J (some m) st' a'.tmps w') a w
variable {ch0 : Qo} {wf : WF} {hs : Z7} {js : List (Nat × JH)}
structure NxtC (P:Program) (gl:Nat→AV) (fv:Value) (xs:List (List AV)) (n:Nat) (c:Code) (ks:List Nat) (kx:List Nat) (x:Exit×List AV) (m:Nat) (vs:List AV) (bs:List Box) (p:Nat):Prop where
 ok:∃vs' bs',LeVs vs vs'∧LeBs bs bs'∧CL P gl fv xs n c ks vs' bs' p kx x m
end
end HY
end
section
namespace HY
open Go Go.RowKit
section
variable {P : Program} {gl : Nat → AV}
variable {cs : Nat → List AV} {w : World} {B1 : Nat → Prop} {H : HV} {rest : List (AV × Value)}
end
end HY
end
noncomputable section
namespace Go.Proofs.YtolcgikajjkjgaaGreatDoor
open Go HY
set_option maxRecDepth 1000000
set_option linter.unusedVariables false
end Go.Proofs.YtolcgikajjkjgaaGreatDoor
end
section
namespace Go.Proofs.YtolcgikajjkjgaaGreatDoor
open Go HY
set_option maxRecDepth 1000000
set_option linter.unusedVariables false
end Go.Proofs.YtolcgikajjkjgaaGreatDoor
end
section
namespace Go.Proofs.YtolcgikajjkjgaaGreatDoor
open Go HY
set_option linter.unusedVariables false
set_option linter.unusedSimpArgs false
def okN(n:Int):Prop:=0≤n∧n≤1099511627776
def szD(d:List Int):Int:=if Kf d=0 then(Ko 1 d).getD 0 else 0
theorem PS(d:List Int){F:Int→Int→Option Int}(h0:∀a,F a d.length=some a)(h1:∀a (i:Int) x,0≤i→i<d.length→ix d i=some x→F a i=F (wr (a*x)) (wr (i+1)))(hl:d.length≤6):
  ∀m,Ko 1 d=some m→F 1 0=some m:=fun m hm=>by
 have key:∀(t p:List Int) (a:Int),d=p++t→1≤a→a≤4096→Ko a t=some m→F a p.length=some m:=by
  intro t
  induction t with
  |nil=>
   intro p a e _ _ h;have:p.length=d.length:=by rw[e];simp
   cases h;rw[this,h0]
  |cons v t ih=>
   intro p a e ha a8 h;have a3:(p.length:Int)<d.length:=by rw[e];simp;omega
   simp only[Ko] at h;split at h;·cases h
   ·rename_i hc;have hv:1≤v:=by omega
    have h2:1≤a*v:=by have:=Int.mul_le_mul ha hv (by omega) (by omega);omega
    rw[h1 a p.length v (by omega) a3 (Yi e),Zw (by omega),ZA (by omega) a3 (by omega)]
    have:=ih (p++[v]) (a*v) (by rw[e];simp) h2 (by omega) h
    rw[show((p++[v]).length:Int)=(p.length:Int)+1 by simp] at this
    exact this
 exact key d [] 1 rfl (by omega) (by omega) hm
theorem LR{d:List Int}(h:Kf d=0):d.length≤6∧∃m,Ko 1 d=some m∧okN m:=by
 unfold Kf at h;split at h;·cases h
 ·split at h;·cases h
  ·split at h
   ·rename_i h1 _ h3;obtain⟨m,hm⟩:=Option.isSome_iff_exists.1 h3;have:=HS (by omega) hm
    exact⟨by omega,m,hm,by unfold okN;omega⟩
   ·cases h
theorem p_szD(d:List Int):Dw d=some (szD d):=by
 unfold Dw szD;rw[SJ,bS];by_cases h:Kf d=0
 ·obtain⟨hl,m,hm,_⟩:=LR h;rw[if_neg (by simp[h]),if_pos h,hm]
  simp only[bS];rw[PS d (F:=fun a i=>Kn a d d.length i) (fun a=>by rw[Kn,if_neg (by omega)]) (fun a i x h0 h1 hx=>by rw[Kn,if_pos h1,hx,bS,bS]) hl m hm];rfl
 ·rw[if_pos (by simp[h]),if_neg h]
end Go.Proofs.YtolcgikajjkjgaaGreatDoor
end
section
namespace Go.Proofs.YtolcgikajjkjgaaGreatDoor
open Go HY
set_option maxRecDepth 1000000
set_option linter.unusedVariables false
set_option linter.unusedSimpArgs false
end Go.Proofs.YtolcgikajjkjgaaGreatDoor
end
section
namespace Go.Proofs.YtolcgikajjkjgaaGreatDoor
open Go HY
set_option maxRecDepth 1000000
set_option linter.unusedVariables false
abbrev fnV(g:Nat)(us:Array Value):Value:=.func (.func g) #[] us
abbrev nxV(g:Nat)(us:Array Value)(xs:List (List AV))(l:List Qe)(n i:Int)(m p:Nat):Prop:=NxtC Tryz.prog gls (fnV g us) xs 66 (Jf Tryz.prog 20 (2+1)) [3,7,8,9] [] (.exit 0,[]) m [.ip 1 [.agg [.val (fnV g us)]] 0 0,.sl 20 (l.map Qh),.int .i64 n,.int .i64 (wr (i+1))] [] p
abbrev st2(g:Nat)(us:Array Value)(xs:List (List AV))(l:List Qe)(n i:Int)(m p:Nat)(x:Qw):Prop:=∃c:gCost,PU 48 [Q2 x.fExpr] (Tt c)∧∃a:Int,PU 49 [.sl 4 (x.fIdx.map Q7)] (eI a)∧∃b:Int,PU 23 [eI c.fReads,eI a] (eI b)∧
 ((x.fOp==(3:Int))=true→∃r:Int,PU 23 [eI b,eI 1] (eI r)∧∃o:Int,PU 23 [eI c.fOps,eI 1] (eI o)∧fnV g us=fnV g us∧xs[p]? =some [Tt ⟨c.fLoops,r,1,o,c.fWords⟩]∧nxV g us xs l n i m (p+1))∧
 ((x.fOp==(3:Int))=false→fnV g us=fnV g us∧xs[p]? =some [Tt ⟨c.fLoops,b,1,c.fOps,c.fWords⟩]∧nxV g us xs l n i m (p+1))
abbrev st1(g:Nat)(us:Array Value)(xs:List (List AV))(l:List Qe)(n i:Int)(m p:Nat)(x:Qw):Prop:=fnV g us=fnV g us∧xs[p]? =some [Tt ⟨x.fMany,0,0,0,0⟩]∧∃ys:List (List AV),(∀(k:Nat) (y:List AV),ys[k]? =some y→CF Tryz.prog gls (fnV g us) xs 50 (y++[.ip 1 [.agg [.val (fnV g us)]] 0 0,.ip 20 [Qx x] 0 0]) (p+1+k) (p+1+k+1))∧
 (∀(g':Nat) (a3:Array Value),CF Tryz.prog gls (fnV g' a3) ys 20 [.sl 20 (x.fBody.map Qh),.val (fnV g' a3)] 0 ys.length)∧nxV g us xs l n i m (p+1+ys.length)
end Go.Proofs.YtolcgikajjkjgaaGreatDoor
end
noncomputable section
namespace Go.Proofs.YtolcgikajjkjgaaGreatDoor
open Go HY
set_option maxRecDepth 1000000
set_option linter.unusedVariables false
end Go.Proofs.YtolcgikajjkjgaaGreatDoor
end
section
namespace Go.Proofs.YtolcgikajjkjgaaGreatDoor
open Go HY
set_option maxRecDepth 1000000
end Go.Proofs.YtolcgikajjkjgaaGreatDoor
end
noncomputable section
namespace Go.Proofs.YtolcgikajjkjgaaGreatDoor
open Go HY
set_option maxRecDepth 1000000
set_option linter.unusedVariables false
end Go.Proofs.YtolcgikajjkjgaaGreatDoor
end
section
namespace Go.Proofs.YtolcgikajjkjgaaGreatDoor
open Go HY
set_option linter.unusedVariables false
set_option linter.unusedSimpArgs false
abbrev an{α:Type}(x:Option α):Prop:=wp x (fun _=>True)
theorem BX(m:Int)(x:Q1)(k:Int)(y:Qi)(hy:ix x.fIdx k=some y)(hl:y.fAt.length≤4611686018427387904)(a:Int):an (Yx m x a k 0):=by
 refine LK (F:=fun a i=>Yx m x a k i) y.fAt.length (fun _ _=>True) ?_ ?_ 0 a (by omega) (by omega) trivial
 ·intro a _;rw[Yx,bS,hy,bS,bS,if_neg (by omega),bS,if_neg (by simp)];exact ZE.2 trivial
 ·intro i a h0 h1 _ ih;rw[Yx,bS,hy,bS,bS,if_pos h1];by_cases hc:a≤m
  ·obtain⟨z,hz,_⟩:=Ef h0 h1;rw[if_pos hc,bS,if_pos rfl,bS];simp only[hz,bS];rw[ZA h0 h1 hl];exact ih _ trivial
  ·rw[if_neg hc,bS,if_neg (by simp)];exact ZE.2 trivial
theorem BW(m:Int)(x:Q1)(hl:x.fIdx.length≤4611686018427387904)(hi:∀i∈x.fIdx,i.fAt.length≤4611686018427387904)(a:Int):an (Yw m x a 0):=by
 refine LK (F:=fun a i=>Yw m x a i) x.fIdx.length (fun _ _=>True) ?_ ?_ 0 a (by omega) (by omega) trivial
 ·intro a _;rw[Yw,bS,bS,if_neg (by omega),bS,if_neg (by simp)];exact ZE.2 trivial
 ·intro i a h0 h1 _ ih;rw[Yw,bS,bS,if_pos h1];by_cases hc:a≤m
  ·obtain⟨z,hz,a4⟩:=Ef h0 h1;rw[if_pos hc,bS,if_pos rfl];simp only[hz,bS];obtain⟨r,er,_⟩:=BX m x i z hz (hi z a4) (wr (wr (a+(List.map Qq z.fLin.fL).length)+z.fAt.length));rw[er,bS,ZA h0 h1 hl];exact ih _ trivial
  ·rw[if_neg hc,bS,if_neg (by simp)];exact ZE.2 trivial
theorem OZ:∀e:Qb,okE e→∀m,an (Ve e.f m):=Qb.ind fun x ih hx m=>by
 obtain⟨_,h2,h3,h4,h5⟩:=hx.of;obtain⟨r,er,_⟩:=BW m x (by omega) (fun i hi=>by have:=(h3 i hi).2.1;omega) (wr (wr (1+(x.fLin.fL.length:Int))+x.fIdx.length))
 have hL:∀a,an (Y3 m x a 0):=fun a=>by
  refine LK (F:=fun a i=>Y3 m x a i) x.fArgs.length (fun _ _=>True) ?_ ?_ 0 a (by omega) (by omega) trivial
  ·intro a _;rw[Y3,bS,bS,if_neg (by omega),bS,if_neg (by simp)];exact ZE.2 trivial
  ·intro i a h0 h1 _ a6;rw[Y3,bS,bS,if_pos h1];by_cases hc:a≤m
   ·obtain⟨z,hz,a3⟩:=Ef h0 h1;obtain⟨q,eq,_⟩:=ih z a3 (h5 z a3) (wr (m - a));rw[if_pos hc,bS,if_pos rfl];simp only[hz,omS,bS,eq];rw[ZA h0 h1 (by omega)]
    exact a6 _ trivial
   ·rw[if_neg hc,bS,if_neg (by simp)];exact ZE.2 trivial
 obtain⟨r2,a4,_⟩:=hL r;rw[Qb.f_mk,Ve];simp only[bS,er,a4];exact ZE.2 trivial
theorem FO:∀l,okSs l→∀m,an (Yo l m):=Gg fun l hl ih m=>by
 have ac:=hl.1;have hL:∀a,an (ZK l m a 0):=fun a=>by
  refine LK (F:=fun a i=>ZK l m a i) l.length (fun _ _=>True) ?_ ?_ 0 a (by omega) (by omega) trivial
  ·intro a _;rw[ZK,bS,bS,if_neg (by omega),bS,if_neg (by simp)];exact ZE.2 trivial
  ·intro i a h0 h1 _ a9;rw[ZK,bS,bS,if_pos h1];by_cases hc:a≤m
   ·obtain⟨z,hz,a5⟩:=Ef h0 h1;have a8:okS (.mk z.f):=by rw[Qe.mk_f];exact hl.2 z a5
    obtain⟨i1,i2,hE,_⟩:=a8.of;obtain⟨q1,a3,_⟩:=OZ (.mk z.f.fExpr) hE m;obtain⟨q2,a4,_⟩:=OZ (.mk (KG.mk (0:Int) [] (gVal.mk (0:Int) (0:Int)) (Q6.mk (0:Int) (0:Int) (0:Int) (0:Int) (0:Int)) (gLin.mk (0:Int) []) z.f.fIdx [])) (.mk _ ⟨⟨by show(-9223372036854775808:Int)≤0;omega,by show(0:Int)≤9223372036854775807;omega⟩,by simp,by simp⟩ i1 i2 (by simp) (by simp)) m
    obtain⟨q3,a6,_⟩:=ih z a5 (max (0:Int) (wr (m - a)));rw[Qb.f_mk] at a3 a4;rw[if_pos hc,bS,if_pos rfl];simp only[hz,omS,bS,a3,a4,if_true,a6];rw[ZA h0 h1 (by omega)]
    exact a9 _ trivial
   ·rw[if_neg hc,bS,if_neg (by simp)];exact ZE.2 trivial
 obtain⟨r,er,_⟩:=hL l.length;rw[Yo];simp only[bS,er];exact ZE.2 trivial
end Go.Proofs.YtolcgikajjkjgaaGreatDoor
end
section
namespace Go.Proofs.YtolcgikajjkjgaaGreatDoor
open Go HY
set_option linter.unusedVariables false
set_option linter.unusedSimpArgs false
def zv(t:Q6):gVal:=if tyOK t=true then⟨0,1⟩ else⟨0,0⟩
theorem p_Zero(t:Q6):WL t=some (zv t):=by
 unfold WL zv;rw[Ur];cases tyOK t<;>rfl
theorem r_Zero(t:Q6):Wz t=some (zv t):=by
 unfold Wz zv;rw[HN];cases tyOK t<;>rfl
def okT(t:Qf):Prop:=t.fDims.length*8≤140737488351232∧t.fVals.length*16≤140737488351232
theorem p_copy(t:Qf)(h:okT t):VF t=some t:=by
 obtain⟨h1,h2⟩:=h;unfold VF Xe Jd;rw[if_pos (by omega),bS,if_pos (by omega)]
 rfl
theorem r12_L4(d:List Int)(hl:d.length≤1048576):Y5 d 0=some (if d.any (fun v=>decide (v<1)) then .inr 1 else .inl ()):=by
 refine D9 (F:=fun i=>Y5 d i) (l:=d) (fun t=>if t.any (fun v=>decide (v<1)) then .inr 1 else .inl ()) ?_ ?_
 ·rw[Y5];simp[bS]
 ·intro i y t h0 h1 a3 ih;rw[Y5,bS,if_pos h1,a3];simp only[bS,UF h0 h1 (by omega),ih,List.any_cons]
  by_cases h2:y<1<;>simp[h2]
theorem r12_L10(d:List Int)(hl:d.length≤1048576)(hd:∀v∈d,1≤v):XB d 1 0=some (if(Ko 1 d).isSome then .inl () else .inr 2):=by
 refine YQ (F:=fun n i=>XB d n i) (l:=d) (fun n t=>1≤n∧n≤4096) (fun n t=>if(Ko n t).isSome then .inl () else .inr 2) ?_ ?_ 1 (by omega)
 ·intro n _;rw[XB];simp[Ko,bS]
 ·intro i y t n h0 h1 hm a4 hI ih;have hy:=hd y hm;have h4:=BA hI.1;rw[XB,bS,if_pos h1,a4];simp only[bS,UF h0 h1 (by omega)]
  rw[if_pos (show n≠0 by omega),Zw (by omega)]
  by_cases h2:4096<n*y;·rw[if_pos ((Ev hI.1).2 h2),Lf (.inr h2)];rfl
  ·have hp:n≤n*y:=by
    have:=Int.mul_le_mul_of_nonneg_left hy (show 0≤n by omega);rwa [Int.mul_one] at this
   rw[if_neg (fun h=>h2 ((Ev hI.1).1 h)),RQ (by omega),Zw (by omega)]
   exact ih _ (by omega)
theorem Q1j(d:List Int):CT d=some (Kf d):=by
 unfold CT Kf;simp only[bS];by_cases h6:(6:Int)<d.length;·rw[if_pos h6,if_pos (by omega)]
 ·have hl:d.length≤1048576:=by omega
  rw[if_neg h6,if_neg (by omega),r12_L4 d hl]
  by_cases ha:d.any (fun v=>decide (v<1))=true
  ·rw[if_pos ha,if_pos ha];rfl
  ·rw[if_neg ha,bS,if_neg ha];simp only;rw[r12_L10 d hl (fun v hv=>by
    have:¬v<1:=fun h=>ha (List.any_eq_true.2 ⟨v,hv,by simpa using h⟩)
    omega)]
   cases hs:(Ko 1 d).isSome<;>simp[bS]
theorem Q2z(d:List Int)(h:Kf d=0):WA d=some (szD d):=by
 unfold WA szD;obtain⟨hl,m,hm,_⟩:=LR h;rw[if_pos h,hm];simp only[bS];rw[PS d (F:=fun a i=>Km d a i) (fun a=>by rw[Km,bS,if_neg (by omega)]) (fun a i x h0 h1 hx=>by rw[Km,bS,if_pos h1,hx,bS,bS]) hl m hm];rfl
theorem Q30(b:Q9)(h:Kf b.fDims=0):Zz b 1 0=some (szD b.fDims):=by
 unfold szD;obtain⟨hl,m,hm,_⟩:=LR h;rw[if_pos h,hm];rw[PS b.fDims (F:=fun a i=>Zz b a i) (fun a=>by rw[Zz,bS,if_neg (by omega)]) (fun a i x h0 h1 hx=>by rw[Zz,bS,if_pos h1,hx,bS,bS]) hl m hm];rfl
theorem LU{d:List Int}(h:Kf d=0):1≤szD d∧szD d≤4096:=by
 unfold szD;rw[if_pos h];unfold Kf at h;split at h;·cases h
 ·split at h;·cases h
  ·split at h
   ·rename_i h3;obtain⟨m,hm⟩:=Option.isSome_iff_exists.1 h3;have:=HS (by omega) hm
    rw[hm];exact⟨by show 1≤m;omega,by show m≤4096;omega⟩
   ·cases h
def tvE(t:Qf):Int:=if tyOK t.fType=false then 10 else if Kf t.fDims≠0 then Kf t.fDims else if(t.fVals.length:Int)≠szD t.fDims then 1 else if t.fVals.all (vlOK t.fType)=true then 0 else 1
theorem p_tv10(t:Qf)(hy:tyOK t.fType=true)(hl:t.fVals.length≤1048576):ZD t t.fVals t.fVals.length 0=some (if t.fVals.all (vlOK t.fType)=true then .inl () else .inr 1):=by
 refine D9 (F:=fun i=>ZD t t.fVals t.fVals.length i) (l:=t.fVals) (fun q=>if q.all (vlOK t.fType)=true then .inl () else .inr 1) ?_ ?_
 ·rw[ZD];simp
 ·intro i y q h0 h1 a3 ih;rw[ZD,if_pos h1,a3];simp only[bS,Bn _ _ hy,UF h0 h1 (by omega),ih,List.all_cons]
  by_cases hv:vlOK t.fType y=true<;>simp[hv]
theorem p_tv(t:Qf):Gp t=some (tvE t):=by
 unfold Gp tvE;by_cases hy:tyOK t.fType=true
 ·rw[Ur,bS,if_pos hy,if_neg (show ¬tyOK t.fType=false by simp[hy]),if_neg (by decide),SJ,bS]
  by_cases hs:Kf t.fDims=0
  ·rw[if_neg (by simp[hs]),if_neg (by simp[hs]),p_szD,bS,bS]
   by_cases hc:(t.fVals.length:Int)=szD t.fDims
   ·have:=LU hs;rw[if_neg (by simp[hc]),if_neg (by simp[hc]),bS,bS,p_tv10 t hy (by omega),bS]
    by_cases hv:t.fVals.all (vlOK t.fType)=true<;>simp[hv]
   ·rw[if_pos (by simpa using hc),if_pos hc]
  ·rw[if_pos (by simpa using hs),if_pos hs]
 ·rw[Ur,bS,if_neg hy,if_pos (show tyOK t.fType=false by simpa using hy),if_pos (by decide)]
theorem r_tv9(t:Qf)(hy:tyOK t.fType=true)(hl:t.fVals.length≤1048576):X0 t 0=some (if t.fVals.all (vlOK t.fType)=true then .inl () else .inr 1):=by
 refine D9 (F:=fun i=>X0 t i) (l:=t.fVals) (fun q=>if q.all (vlOK t.fType)=true then .inl () else .inr 1) ?_ ?_
 ·rw[X0];simp[bS]
 ·intro i y q h0 h1 a3 ih;rw[X0,bS,if_pos h1,a3];simp only[bS,r_Val _ _ hy,UF h0 h1 (by omega),ih,List.all_cons]
  by_cases hv:vlOK t.fType y=true<;>simp[hv]
theorem r_tv(t:Qf):GP t=some (tvE t):=by
 unfold GP tvE;by_cases hy:tyOK t.fType=true
 ·rw[HN,bS,if_pos hy,if_neg (show ¬tyOK t.fType=false by simp[hy]),Q1j,bS]
  by_cases hs:Kf t.fDims=0
  ·rw[if_neg (by simp[hs]),if_neg (by simp[hs]),Q2z _ hs,bS,bS]
   by_cases hc:(t.fVals.length:Int)=szD t.fDims
   ·have:=LU hs;rw[if_neg (by simp[hc]),if_neg (by simp[hc]),bS,r_tv9 t hy (by omega),bS]
    by_cases hv:t.fVals.all (vlOK t.fType)=true<;>simp[hv]
   ·rw[if_pos (by simpa using hc),if_pos hc]
  ·rw[if_pos (by simpa using hs),if_pos hs]
 ·rw[HN,bS,if_neg hy,if_pos (show tyOK t.fType=false by simpa using hy)]
theorem ix_zip{α β:Type}{a:List α}{b:List β}{i:Int}{p:α×β}(h:ix (a.zip b) i=some p):ix a i=some p.1∧ix b i=some p.2:=by
 unfold ix at h ⊢;split at h
 ·rename_i h0;rw[if_pos h0,if_pos h0];rw[List.getElem?_zip_eq_some] at h;exact h
 ·cases h
theorem I0:∀ {a b:List Int},a.length=b.length→((a.zip b).all (fun p=>p.1==p.2)=true↔a=b)
 | [],[],_=>by simp
 | [],_::_,h=>by simp at h
 |_::_,[],h=>by simp at h
 |x::a,y::b,h=>by
  have:=I0 (a:=a) (b:=b) (by simpa using h)
  simp only[List.zip_cons_cons,List.all_cons,Bool.and_eq_true,this,beq_iff_eq,List.cons.injEq]
theorem p_Ints(a b:List Int)(hl:a.length≤1099511627776):UZ a b=some (decide (a=b)):=by
 unfold UZ;simp only[bS];by_cases h:a.length=b.length
 ·have hz:(a.zip b).length=a.length:=by simp[h]
  have hL:ZC a b a.length 0=some (if(a.zip b).all (fun p=>p.1==p.2)=true then .inl () else .inr false):=by
   refine D9 (F:=fun i=>ZC a b a.length i) (l:=a.zip b) (fun q=>if q.all (fun p=>p.1==p.2)=true then .inl () else .inr false) ?_ ?_
   ·rw[ZC];simp[h]
   ·intro i y q h0 h1 a4 ih;rw[hz] at h1;obtain⟨e1,e2⟩:=ix_zip a4;rw[ZC,if_pos h1,e1,bS,e2,bS,UF h0 h1 hl,ih,List.all_cons];cases hb:(y.1==y.2)<;>simp only[bne,hb,Bool.not_true,Bool.not_false,Bool.true_and,Bool.false_and,if_true,if_false,Bool.false_eq_true]
  rw[if_neg (by simp[h]),hL,bS]
  by_cases he:a=b;·rw[if_pos ((I0 h).2 he)];simp[he]
  ·rw[if_neg (fun hh=>he ((I0 h).1 hh))];simp[he]
 ·rw[if_pos (by simp;omega)]
  have:a≠b:=fun e=>h (by rw[e])
  simp[this]
theorem r_Ints(a b:List Int)(hl:a.length≤1099511627776):Cy a b=some (decide (a=b)):=by
 unfold Cy;simp only[bS];by_cases h:a.length=b.length
 ·have hz:(a.zip b).length=a.length:=by simp[h]
  have hL:K4 a b 0=some (if(a.zip b).all (fun p=>p.1==p.2)=true then .inl () else .inr false):=by
   refine D9 (F:=fun i=>K4 a b i) (l:=a.zip b) (fun q=>if q.all (fun p=>p.1==p.2)=true then .inl () else .inr false) ?_ ?_
   ·rw[K4];simp[h,bS]
   ·intro i y q h0 h1 a4 ih;rw[hz] at h1;obtain⟨e1,e2⟩:=ix_zip a4;rw[K4,bS,if_pos h1,e1,bS,e2,bS,UF h0 h1 hl,ih,List.all_cons];cases hb:(y.1==y.2)<;>simp only[bne,hb,Bool.not_true,Bool.not_false,Bool.true_and,Bool.false_and,if_true,if_false,Bool.false_eq_true]
  rw[if_neg (by simp[h]),hL,bS]
  by_cases he:a=b;·rw[if_pos ((I0 h).2 he)];simp[he]
  ·rw[if_neg (fun hh=>he ((I0 h).1 hh))];simp[he]
 ·rw[if_pos (by simp;omega)]
  have:a≠b:=fun e=>h (by rw[e])
  simp[this]
def fnd(l:List Q3)(s:Str):Option Q3:=l.find? fun x=>x.fName==s
def zTn:Qf:=Qf.mk (Q6.mk (0:Int) (0:Int) (0:Int) (0:Int) (0:Int)) [] []
def fndT(l:List Q3)(s:Str):Qf×Bool:=match fnd l s with
 |some x=>(x.fTensor,true)
 |none=>(zTn,false)
theorem PB(l:List Q3)(s:Str)(hl:l.length≤1099511627776):Gz l s=some (fndT l s):=by
 unfold Gz fndT;have hL:YC l s zTn 0=some (match fnd l s with | some x=>.inr (x.fTensor,true) | none=>.inl zTn):=by
  refine D9 (F:=fun i=>YC l s zTn i) (l:=l) (fun t=>match t.find? fun x=>x.fName==s with | some x=>.inr (x.fTensor,true) | none=>.inl zTn) ?_ ?_
  ·rw[YC];simp[bS]
  ·intro i y t h0 h1 a3 ih;rw[YC,bS,if_pos h1,a3,bS,UF h0 h1 hl,ih,List.find?_cons];cases hy:(y.fName==s) with
   |true=>rw[if_pos rfl,bS]
   |false=>rw[if_neg (by simp)]
 rw[bS,show Qf.mk (Q6.mk (0:Int) (0:Int) (0:Int) (0:Int) (0:Int)) [] []=zTn from rfl,hL,bS];cases fnd l s<;>rfl
theorem p_idx(l:List Q3)(s:Str)(hl:l.length≤4611686018427387904):∃r,Qy l s l.length 0=some r∧(match r with | .inl _=>fnd l s=none | .inr k=>0≤k∧∃x,ix l k=some x∧fnd l s=some x):=by
 have key:∀(t p:List Q3),l=p++t→∃r,Qy l s l.length p.length=some r∧(match r with | .inl _=>(t.find? fun x=>x.fName==s)=none | .inr k=>0≤k∧∃x,ix l k=some x∧(t.find? fun x=>x.fName==s)=some x):=by
  intro t
  induction t with
  |nil=>intro p e;subst e;exact⟨_,by rw[Qy];simp;rfl,rfl⟩
  |cons c t ih=>
   intro p e;have a3:(p.length:Int)<l.length:=by rw[e];simp;omega
   rw[Qy,if_pos a3,Yi e,bS,Ww,bS,List.find?_cons];cases hc:(c.fName==s) with
   |true=>exact⟨_,rfl,by omega,c,Yi e,rfl⟩
   |false=>
    rw[if_neg (by simp),ZA (by omega) a3 hl]
    have:=ih (p++[c]) (by rw[e];simp)
    rw[show((p++[c]).length:Int)=(p.length:Int)+1 by simp] at this
    exact this
 exact key l [] rfl
theorem p_find(l:List Q3)(s:Str)(hl:l.length≤4611686018427387904):D5 l s=some (fndT l s):=by
 obtain⟨r,hr,hm⟩:=p_idx l s hl;unfold D5 KS fndT;simp only[bS,hr];cases r with
 |inl u=>simp only at hm;rw[hm];rfl
 |inr k=>
  obtain⟨h0,x,hx,hf⟩:=hm;simp only[bS];rw[if_neg (by omega),hx,hf];rfl
theorem SE{l:List Q3}{s:Str}{x:Q3}(h:fnd l s=some x):x∈l:=List.mem_of_find?_eq_some h
end Go.Proofs.YtolcgikajjkjgaaGreatDoor
end
section
namespace Go.Proofs.YtolcgikajjkjgaaGreatDoor
open Go HY
set_option linter.unusedVariables false
set_option linter.unusedSimpArgs false
def tyQ(a b:Q6):Bool:=a.fKind==b.fKind&& (a.fBits==b.fBits&& (a.fFrac==b.fFrac&& (a.fRound==b.fRound&& (a.fOver==b.fOver&&true))))
def pvE(l:List Q3)(b:Q9):Int:=match fnd l b.fName with
 |none=>9
 |some x=>if tvE x.fTensor≠0 then 1 else if tyQ x.fTensor.fType b.fType=false then 10 else if x.fTensor.fDims=b.fDims then 0 else 15
def okM(l:List Q3):Prop:=l.length≤30∧∀x∈l,x.fTensor.fVals.length≤4200∧x.fTensor.fDims.length≤20
def pvX(t:Qf)(b:Q9):Int:=if tvE t≠0 then 1 else if tyQ t.fType b.fType=false then 10 else if t.fDims=b.fDims then 0 else 15
theorem PA{l:List Q3}{b:Q9}{x:Q3}(h:fnd l b.fName=some x):pvE l b=pvX x.fTensor b:=by unfold pvE;rw[h];rfl
theorem Pz{l:List Q3}{b:Q9}(h:fnd l b.fName=none):pvE l b=9:=by unfold pvE;rw[h]
theorem Q0c(l:List Q3)(h:okM l)(b:Q9):Gl l b=some (if pvE l b=0 then((fndT l b.fName).1,0) else(zTn,pvE l b)):=by
 unfold Gl;rw[p_find l _ (by have:=h.1;omega),bS]
 unfold fndT;cases hf:fnd l b.fName with
 |none=>rw[Pz hf];rfl
 |some x=>
  obtain⟨h1,h2⟩:=h.2 x (SE hf);rw[PA hf];simp only[if_true];rw[p_tv,bS];by_cases ht:tvE x.fTensor=0
  ·rw[if_neg (show ¬(tvE x.fTensor !=0)=true by simp[ht])]
   change (if(!(tyQ x.fTensor.fType b.fType))=true then _ else _)=_
   by_cases hy:tyQ x.fTensor.fType b.fType=true
   ·rw[if_neg (show ¬(!(tyQ x.fTensor.fType b.fType))=true by rw[hy];decide),p_Ints _ _ (by omega),bS]
    by_cases hd:x.fTensor.fDims=b.fDims
    ·have e:pvX x.fTensor b=0:=by simp[pvX,ht,hy,hd]
     rw[if_pos (by simpa using hd),p_copy _ ⟨by omega,by omega⟩,bS,e,if_pos rfl]
    ·have e:pvX x.fTensor b=15:=by simp[pvX,ht,hy,hd]
     rw[if_neg (by simpa using hd),e];rfl
   ·have e:pvX x.fTensor b=10:=by simp[pvX,ht,hy]
    rw[if_pos (show(!(tyQ x.fTensor.fType b.fType))=true by simpa using hy),e];rfl
  ·have e:pvX x.fTensor b=1:=by simp[pvX,ht]
   rw[if_pos (show(tvE x.fTensor !=0)=true by simpa using ht),e];rfl
theorem r_Must(l:List Q3)(h:okM l)(b:Q9):WD l b.fName b.fType b.fDims=some (pvE l b):=by
 unfold WD;rw[PB l _ (by have:=h.1;omega),bS]
 unfold fndT;cases hf:fnd l b.fName with
 |none=>rw[Pz hf];rfl
 |some x=>
  obtain⟨h1,h2⟩:=h.2 x (SE hf);rw[PA hf];simp only[if_true];rw[r_tv,bS];by_cases ht:tvE x.fTensor=0
  ·rw[if_neg (show ¬(tvE x.fTensor !=0)=true by simp[ht])]
   change (if(!(tyQ x.fTensor.fType b.fType))=true then _ else _)=_
   by_cases hy:tyQ x.fTensor.fType b.fType=true
   ·rw[if_neg (show ¬(!(tyQ x.fTensor.fType b.fType))=true by rw[hy];decide),r_Ints _ _ (by omega),bS]
    by_cases hd:x.fTensor.fDims=b.fDims
    ·have e:pvX x.fTensor b=0:=by simp[pvX,ht,hy,hd]
     rw[if_pos (by simpa using hd),e]
    ·have e:pvX x.fTensor b=15:=by simp[pvX,ht,hy,hd]
     rw[if_neg (by simpa using hd),e]
   ·have e:pvX x.fTensor b=10:=by simp[pvX,ht,hy]
    rw[if_pos (show(!(tyQ x.fTensor.fType b.fType))=true by simpa using hy),e]
  ·have e:pvX x.fTensor b=1:=by simp[pvX,ht]
   rw[if_pos (show(tvE x.fTensor !=0)=true by simpa using ht),e]
def mkB(b:Q9):Q3:=⟨b.fName,⟨b.fType,b.fDims,List.replicate (szD b.fDims).toNat (zv b.fType)⟩⟩
def iniS(l:List Q3):List Q3→List Q9→List Q3 ⊕ (List Q3×Int)
 |acc,[]=>.inl acc
 |acc,b::t=>if b.fUse=1 then(if pvE l b≠0 then .inr ([],pvE l b) else iniS l (acc++[⟨b.fName,(fndT l b.fName).1⟩]) t) else iniS l (acc++[mkB b]) t
theorem Ba:∀l:List gVal,(List.map Qk l).all immE=true
 | []=>rfl
 |v::t=>by rw[List.map_cons,List.all_cons,Ba t];rfl
theorem p_rep(v:gVal){n:Int}(h1:1≤n)(h2:n≤4096):Kh [v] n=some (List.replicate n.toNat v):=by
 unfold Kh;simp only;rw[if_pos ⟨h1,h2⟩]
theorem p_ini(l:List Q3)(h:okM l)(bs:List Q9)(hb:∀b∈bs,Kf b.fDims=0)(hn:bs.length≤150):Zm l [] bs bs.length 0=some (iniS l [] bs):=by
 refine YQ (F:=fun a3 i=>Zm l a3 bs bs.length i) (l:=bs) (fun a3 t=>a3.length+t.length≤150) (fun a3 t=>iniS l a3 t) ?_ ?_ [] (by simpa using hn)
 ·intro a3 _;rw[Zm,if_neg (by omega)];rfl
 ·intro i b t a3 h0 h1 hm a4 hI ih;have hs:=hb b hm;have hd:=(LR hs).1;obtain⟨s1,s2⟩:=LU hs;have hc:Xe b.fDims=some b.fDims:=by unfold Xe;rw[if_pos (by omega)]
  simp only[List.length_cons] at hI;rw[Zm,if_pos h1,a4,bS,hc,bS,p_Zero,bS,p_szD,bS,p_rep _ s1 s2,bS,if_pos (Ba _)];rw[UF h0 h1 (by omega)]
  rw[iniS];by_cases hu:b.fUse=1
  ·rw[if_pos (by simp[hu]),if_pos hu,Q0c l h b,bS]
   by_cases hp:pvE l b=0
   ·rw[if_pos hp,if_neg (by simp),if_neg (by simp[hp]),bS,if_pos (by omega),bS]
    exact ih _ (by simp;omega)
   ·rw[if_neg hp,if_pos (by simpa using hp),if_pos hp]
  ·rw[if_neg (by simp[hu]),if_neg hu,bS,if_pos (by omega),bS]
   exact ih _ (by simp;omega)
theorem r_fill(b:Q9)(ty:Q6)(d:List Int)(a3:Int)(hm:a3≤4096):∀(k:Nat) (vs:List gVal) (i:Int),0≤i→i+k=a3→vs.length=i→
  ZU b ⟨ty,d,vs⟩ a3 i=some ⟨ty,d,vs++List.replicate k (zv b.fType)⟩
 |0,vs,i,h0,h1,h2=>by rw[ZU,if_neg (by omega)];simp
 |k+1,vs,i,h0,h1,h2=>by
  rw[ZU,if_pos (by omega),r_Zero,bS,if_pos (by show(vs.length+1)*16≤_∧vs.length+1≤_;omega),bS,Zw (by omega)]
  rw[r_fill b ty d a3 hm k (vs++[zv b.fType]) (i+1) (by omega) (by omega) (by simp;omega)]
  rw[List.append_assoc,List.replicate_succ];rfl
theorem r_ini(n:Qd)(l:List Q3)(h:okM l)(hb:∀b∈n.fBufs,Kf b.fDims=0)(hn:n.fBufs.length≤150):Zr l n [] 0=some (iniS l [] n.fBufs):=by
 refine YQ (F:=fun a3 i=>Zr l n a3 i) (l:=n.fBufs) (fun a3 t=>a3.length+t.length≤150) (fun a3 t=>iniS l a3 t) ?_ ?_ [] (by simpa using hn)
 ·intro a3 _;rw[Zr,bS,if_neg (by omega)];rfl
 ·intro i b t a3 h0 h1 hm a5 hI ih;have hs:=hb b hm;obtain⟨s1,s2⟩:=LU hs;simp only[List.length_cons] at hI;rw[Zr,bS,if_pos h1,a5,bS];rw[iniS];by_cases hu:b.fUse=1
  ·rw[if_pos (by simp[hu]),if_pos hu,r_Must l h b,bS]
   by_cases hp:pvE l b=0
   ·rw[if_neg (by simp[hp]),if_neg (by simp[hp]),PB l _ (by have:=h.1;omega),bS,bS,if_pos (by omega),bS,UF h0 h1 (by omega)]
    exact ih _ (by simp;omega)
   ·rw[if_pos (by simpa using hp),if_pos hp]
  ·rw[if_neg (by simp[hu]),if_neg hu]
   simp only[bS];rw[Q30 b hs];simp only[bS];rw[r_fill b b.fType b.fDims (szD b.fDims) s2 (szD b.fDims).toNat [] 0 (by omega) (by omega) (by simp)]
   simp only[bS];rw[if_pos (by omega),UF h0 h1 (by omega)]
   exact ih _ (by simp;omega)
def iniR(n:Qd)(l:List Q3):List Q3×Int:=if(vd n).2≠0 then([],(vd n).2) else match iniS l [] n.fBufs with
 | .inl a=>(a,0)
 | .inr a=>(a.1,a.2)
theorem bufs_0:∀(p l:List Q9),Ke p l=0→∀b∈l,Kf b.fDims=0
 |_,[],_,b,hb=>by cases hb
 |p,x::t,h,b,hb=>by
  rw[Ke] at h;split at h;·cases h
  ·split at h;·cases h
   ·split at h;·cases h
    ·split at h;·rename_i h1;exact absurd h h1
     ·rename_i h1;split at h;·cases h
      ·rcases List.mem_cons.1 hb with rfl | hb
       ·simpa using h1
       ·exact bufs_0 _ t h b hb
theorem vd_0{n:Qd}(h:(vd n).2=0):n.fBufs.length≤128∧∀b∈n.fBufs,Kf b.fDims=0:=by
 unfold vd at h;split at h;·cases h
 ·split at h;·cases h
  ·split at h;·rename_i hq;exact absurd h hq
   ·rename_i h1 h2 h3;exact⟨by omega,bufs_0 _ _ (by simpa using h3)⟩
theorem p_Init(n:Qd)(l:List Q3)(hb:okBs n.fBufs)(hl:okSs n.fBody)(h:okM l):UC n l=some (iniR n l):=by
 unfold UC iniR;rw[p_valid n hb hl,bS];by_cases hv:(vd n).2=0
 ·obtain⟨v1,v2⟩:=vd_0 hv;rw[if_neg (by simp[hv]),if_neg (by simp[hv]),bS,bS,p_ini l h _ v2 (by omega),bS]
  cases iniS l [] n.fBufs<;>rfl
 ·rw[if_pos (by simpa using hv),if_pos hv]
theorem r_Init(n:Qd)(l:List Q3)(hb:okBs n.fBufs)(hl:okSs n.fBody)(h:okM l):UY n l=some (iniR n l):=by
 unfold UY iniR;rw[r_valid n hb hl,bS];by_cases hv:(vd n).2=0
 ·obtain⟨v1,v2⟩:=vd_0 hv;rw[if_neg (by simp[hv]),if_neg (by simp[hv]),bS,r_ini n l h v2 (by omega),bS]
  cases iniS l [] n.fBufs<;>rfl
 ·rw[if_pos (by simpa using hv),if_pos hv]
def outS(l:List Q3):List Q3→List Q9→List Q3
 |acc,[]=>acc
 |acc,b::t=>outS l (if(fndT l b.fName).2=true∧b.fUse=2 then acc++[⟨b.fName,(fndT l b.fName).1⟩] else acc) t
theorem SD{l:List Q3}(h:okM l)(s:Str):(fndT l s).1.fVals.length≤4200∧(fndT l s).1.fDims.length≤20:=by
 unfold fndT;cases hf:fnd l s with
 |none=>simp[zTn]
 |some x=>exact h.2 x (SE hf)
theorem p_out(n:Qd)(l:List Q3)(h:okM l)(hn:n.fBufs.length≤150):GL n l=some (outS l [] n.fBufs):=by
 unfold GL;have hL:ZX l [] n.fBufs n.fBufs.length 0=some (outS l [] n.fBufs):=by
  refine YQ (F:=fun a3 i=>ZX l a3 n.fBufs n.fBufs.length i) (l:=n.fBufs) (fun a3 t=>a3.length+t.length≤150) (fun a3 t=>outS l a3 t) ?_ ?_ [] (by simpa using hn)
  ·intro a3 _;rw[ZX,if_neg (by omega)];rfl
  ·intro i b t a3 h0 h1 hm a5 hI ih;simp only[List.length_cons] at hI;obtain⟨g1,g2⟩:=SD h b.fName;rw[ZX,if_pos h1,bS,a5,bS,p_find l _ (by have:=h.1;omega),bS,bS,outS,UF h0 h1 (by omega)]
   by_cases hc:(fndT l b.fName).2=true∧b.fUse=2
   ·rw[if_pos hc.1,if_pos (by simp[hc.2]),bS,if_pos rfl,p_copy (fndT l b.fName).1 ⟨by omega,by omega⟩,bS,bS,if_pos (by show(a3.length+1)*104≤_∧a3.length+1≤_;omega),bS,bS,if_pos hc]
    exact ih _ (by simp;omega)
   ·rw[if_neg hc];have:(if(fndT l b.fName).2=true then(if(b.fUse==(2:Int))=true then some true else some false) else some false)=some false:=by
     by_cases h1:(fndT l b.fName).2=true;·rw[if_pos h1,if_neg (fun h2=>hc ⟨h1,by simpa using h2⟩)]
     ·rw[if_neg h1]
    simp only[this,bS];rw[if_neg (by simp),bS]
    exact ih _ (by omega)
 rw[bS,bS,hL,bS]
theorem r_out(n:Qd)(l:List Q3)(h:okM l)(hn:n.fBufs.length≤150):Dl n l=some (outS l [] n.fBufs):=by
 unfold Dl;have hL:Xd l n [] 0=some (outS l [] n.fBufs):=by
  refine YQ (F:=fun a3 i=>Xd l n a3 i) (l:=n.fBufs) (fun a3 t=>a3.length+t.length≤150) (fun a3 t=>outS l a3 t) ?_ ?_ [] (by simpa using hn)
  ·intro a3 _;rw[Xd,bS,if_neg (by omega)];rfl
  ·intro i b t a3 h0 h1 hm a5 hI ih;simp only[List.length_cons] at hI;rw[Xd,bS,if_pos h1,bS,a5,bS,PB l _ (by have:=h.1;omega),bS,bS,outS,UF h0 h1 (by omega)]
   simp only[bS,a5];by_cases hc:(fndT l b.fName).2=true∧b.fUse=2
   ·rw[if_pos hc.1,if_pos (by simp[hc.2]),bS,if_pos rfl,if_pos (by show(a3.length+1)*104≤_∧a3.length+1≤_;omega),bS,if_pos hc]
    exact ih _ (by simp;omega)
   ·rw[if_neg hc];have:(if(fndT l b.fName).2=true then(if(b.fUse==(2:Int))=true then some true else some false) else some false)=some false:=by
     by_cases h1:(fndT l b.fName).2=true;·rw[if_pos h1,if_neg (fun h2=>hc ⟨h1,by simpa using h2⟩)]
     ·rw[if_neg h1]
    simp only[this,bS];rw[if_neg (by simp),bS]
    exact ih _ (by omega)
 rw[bS,hL,bS]
end Go.Proofs.YtolcgikajjkjgaaGreatDoor
end
section
namespace Go.Proofs.YtolcgikajjkjgaaGreatDoor
open Go HY
set_option maxRecDepth 1000000
def memoI:Dm:=(32,[.sl 2 [.agg [.int .i64 0,.int .i64 1]],.int .i64 2],.bs 0 0 2 0 2,pt .nil 0 (.cells 0 [.int .i64 0,.int .i64 1,.int .i64 0,.int .i64 1]),1)::Pg
theorem Q2o:ME Tryz.prog gls memoI:=fun e he=>by
 rw[memoI,List.mem_cons] at he;rcases he with rfl | he
 ·exact rep_ok (gVal.mk 0 1) 2 (by decide) (by decide)
 ·exact HE e he
def eV:Nat×List AV×AV×Tr Box×Nat:=(19,[.agg [.sl 8 [.agg [.str [97],.int .i64 1,.int .i64 0,.int .i64 0,.int .i64 0,.int .i64 0,.sl 1 [.agg [.int .i64 2]],.int .i64 1],.agg [.str [99],.int .i64 1,.int .i64 0,.int .i64 0,.int .i64 0,.int .i64 0,.sl 1 [.agg [.int .i64 2]],.int .i64 2]],.sl 20 [.agg [.int .i64 1,.str [105],.int .i64 2,.int .i64 0,.int .i64 0,.nil,.int .i64 0,.str [],.int .i64 0,.int .i64 0,.int .i64 0,.int .i64 0,.int .i64 0,.int .i64 0,.int .i64 0,.int .i64 0,.nil,.nil,.nil,.sl 20 [.agg [.int .i64 2,.str [99],.int .i64 0,.int .i64 0,.int .i64 0,.sl 4 [.agg [.int .i64 0,.sl 2 [.agg [.str [105],.int .i64 1]],.str [],.nil]],.int .i64 3,.str [97],.int .i64 0,.int .i64 0,.int .i64 0,.int .i64 0,.int .i64 0,.int .i64 0,.int .i64 0,.int .i64 0,.nil,.sl 4 [.agg [.int .i64 0,.sl 2 [.agg [.str [105],.int .i64 1]],.str [],.nil]],.nil,.nil]]]]]],.tup [.nil,.int .i64 0],.nil,1)
theorem eV_ok:K3 Tryz.prog gls eV.1 eV.2.1 eV.2.2.1 eV.2.2.2.1 eV.2.2.2.2:=A8 (HX WZ S4 HE 60 (fl:=100000)) (by kernel_rfl)
def memoV:Dm:=eV::memoI
theorem Q2p:ME Tryz.prog gls memoV:=fun e he=>by
 rcases List.mem_cons.1 he with rfl | he
 ·exact eV_ok
 ·exact Q2o e he
theorem Q2n:HY.isTrue (xcallM Tryz.prog gls gds 100000 xe0 memoV 60 11 [] .nil 0)=true:=by kernel_rfl
theorem live_ok:Pu Tryz.prog gls 11 [] (.bool true):=by
 have h:=Q2n;unfold HY.isTrue at h;split at h
 ·rename_i r hr;exact Pu.ofCall (HX WZ S4 Q2p 60 _ _ _ _ _ _ _ hr).zero rfl
 ·cases h
noncomputable def Wx:Option Bool:=some true
theorem Hm(r:Bool)(h:Wx=some r):PU 11 [] (.bool r):=by
 cases h;exact live_ok
end Go.Proofs.YtolcgikajjkjgaaGreatDoor
end
noncomputable section
namespace Go.Proofs.YtolcgikajjkjgaaGreatDoor
open Go HY
set_option maxRecDepth 1000000
set_option linter.unusedVariables false
def YX(s:((List Q3)×Qd))(u:Unit)(o:Bool):List Alt:=jb o (fun b=>[.sl 8 (List.map Q8 (s.1)),.ptr 0 0 0,.bool b]) [.cells 0 (Qp (s.2)).cells]
def Dg(x0:Qd)(x1:List Q3):Option Bool:=
 some ()>>=fun v0=>
 (Nt x0 (500:Int)>>=fun v2=>if v2 then
 Nu x1>>=fun v3=>if v3 then
 some false
 else
 some true
 else
 some true)>>=fun v1=>if v1 then
 Wx>>=fun v5=>
 some v5
 else
 UC x0 x1>>=fun v7=>
 UY x0 x1>>=fun v8=>
 D0 v7.fst v8.fst>>=fun v9=>if v9 then
 if v7.snd==v8.snd then
 GL x0 x1>>=fun a5=>
 Dl x0 x1>>=fun a6=>
 D0 a5 a6>>=fun a7=>if a7 then
 Wx>>=fun a8=>
 some a8
 else
 some false
 else
 some false
 else
 some false
theorem IY(x0:Qd)(x1:List Q3)(r:Bool)(h:Dg x0 x1=some r):PU 4 [Qp x0,X6 x1] (eB r):=
 Pu2 (hs:=[(10,.cb),(14,.cb),(17,.c eB),(21,.c Yh),(27,.c Yh),(32,.cb),(36,.split),(41,.c X6),(44,.c X6),(45,.cb),(48,.c eB),(5000001,.l [] [] [] [1,2,16] [kk 2] (YX (x1,x0)))]) ((kJb (id:=5000001) () (fun v0 a5 v1=>(kCb (Ou x0 (500:Int)) (kCb (Ov x1) (kXj (alts:=YX (x1,x0)) a5 false (.next (.here () rfl (.refl _) (.refl _))))
 (kXj (alts:=YX (x1,x0)) a5 true (.here () rfl (.refl _) (.refl _))))
 (kXj (alts:=YX (x1,x0)) a5 true (.here () rfl (.refl _) (.refl _)))))
 (fun v0=>(kC (sh:=eB) (Hm) fun v5=>(kEr (enc:=eB) v5)))
 (fun v0=>(kC (sh:=Yh) (IW x0 x1) fun v7=>(kC (sh:=Yh) (Ho x0 x1) fun v8=>(kCb (II v7.fst v8.fst) (kIf (c:=v7.snd==v8.snd) (kC (sh:=X6) (Rg x0 x1) fun a6=>(kC (sh:=X6) (Tj x0 x1) fun a7=>(kCb (II a6 a7) (kC (sh:=eB) (Hm) fun a8=>(kEr (enc:=eB) a8))
 (kEr (enc:=eB) false))))
 (kEr (enc:=eB) false))
 (kEr (enc:=eB) false)))))) h)
end Go.Proofs.YtolcgikajjkjgaaGreatDoor
end
section
namespace Go.Proofs.YtolcgikajjkjgaaGreatDoor
open Go HY
set_option linter.unusedVariables false
set_option linter.unusedSimpArgs false
theorem a_short:∀l,okSs l→an (Vs l):=Gg fun l hl ih=>by
 have a7:=hl.1;have hL:an (Y4 l 0):=by
  refine LK (F:=fun(_:Unit) i=>Y4 l i) l.length (fun _ _=>True) ?_ ?_ 0 () (by omega) (by omega) trivial
  ·intro a _;rw[Y4,bS,if_neg (by omega)];exact ZE.2 trivial
  ·intro i a h0 h1 _ a5;obtain⟨z,hz,a4⟩:=Ef h0 h1;obtain⟨q,eq,_⟩:=ih z a4;rw[Y4,bS,if_pos h1];simp only[hz,omS,bS,eq];by_cases c1:(100:Int)< (z.f.fName.length:Int);·rw[if_pos c1,bS,if_pos rfl];exact ZE.2 trivial
   ·rw[if_neg c1];by_cases c2:(20:Int)< (z.f.fIdx.length:Int);·rw[if_pos c2,bS,if_pos rfl];exact ZE.2 trivial
    ·rw[if_neg c2];cases q with
     |false=>rw[if_neg (by simp),bS,if_pos rfl];exact ZE.2 trivial
     |true=>
      rw[if_pos rfl,bS,if_neg (by simp),ZA h0 h1 (by omega)]
      exact a5 () trivial
 obtain⟨r,er,_⟩:=hL;rw[Vs,bS,er,bS];cases r<;>exact ZE.2 trivial
theorem a_Few(n:Qd)(hb:okBs n.fBufs)(hl:okSs n.fBody):∃b,Nt n 500=some b∧(b=true→n.fBufs.length≤150):=by
 unfold Nt;rw[bS];by_cases h:(150:Int)< (n.fBufs.length:Int);·rw[if_pos h];exact⟨_,rfl,fun e=>by cases e⟩
 ·rw[if_neg h,bS];have hL:an (K7 n 0):=by
   refine LK (F:=fun(_:Unit) i=>K7 n i) n.fBufs.length (fun _ _=>True) ?_ ?_ 0 () (by omega) (by omega) trivial
   ·intro a _;rw[K7,bS,if_neg (by omega)];exact ZE.2 trivial
   ·intro i a h0 h1 _ a4;obtain⟨z,hz,aa⟩:=Ef h0 h1;rw[K7,bS,if_pos h1];simp only[hz,bS];by_cases c1:(20:Int)< (z.fDims.length:Int);·rw[if_pos c1,bS,if_pos rfl];exact ZE.2 trivial
    ·rw[if_neg c1];by_cases c2:(100:Int)< (z.fName.length:Int);·rw[if_pos c2,bS,if_pos rfl];exact ZE.2 trivial
     ·rw[if_neg c2,bS,if_neg (by simp),ZA h0 h1 (by omega)]
      exact a4 () trivial
  obtain⟨r,er,_⟩:=hL;rw[er,bS];cases r with
  |inl u=>
   obtain⟨w,ew,_⟩:=FO _ hl 500;obtain⟨q,eq,_⟩:=a_short _ hl;simp only[W6,ew,bS,eq];split;·rw[bS];exact⟨_,rfl,fun _=>by omega⟩
   ·rw[bS];exact⟨_,rfl,fun _=>by omega⟩
  |inr v=>exact⟨_,rfl,fun _=>by omega⟩
def badM(x:Q3):Bool:=decide ((4200:Int)< (x.fTensor.fVals.length:Int)) || (decide ((20:Int)< (x.fTensor.fDims.length:Int)) || decide ((100:Int)< (x.fName.length:Int)))
theorem s_Few31(l:List Q3)(hl:l.length≤4611686018427387904):∃b,Nu l=some b∧(b=true→okM l):=by
 have hL:K8 l 0=some (if l.any badM=true then .inr false else .inl ()):=by
  refine D9 (F:=fun i=>K8 l i) (l:=l) (fun t=>if t.any badM=true then .inr false else .inl ()) ?_ ?_
  ·rw[K8];simp[bS]
  ·intro i y t h0 h1 a3 ih;rw[K8,bS,if_pos h1];simp only[a3,bS,ZA h0 h1 hl,ih,List.any_cons];by_cases c1:(4200:Int)< (y.fTensor.fVals.length:Int);·rw[if_pos c1,bS,if_pos rfl];simp[badM,c1]
   ·rw[if_neg c1];by_cases c2:(20:Int)< (y.fTensor.fDims.length:Int);·rw[if_pos c2,bS,if_pos rfl];simp[badM,c2]
    ·rw[if_neg c2];by_cases c3:(100:Int)< (y.fName.length:Int);·rw[if_pos c3,bS,if_pos rfl];simp[badM,c3]
     ·have:badM y=false:=by simp only[badM,c1,c2,c3,decide_false,Bool.or_false]
      rw[if_neg c3,bS,if_neg (by simp)]
      simp[this]
 unfold Nu;rw[bS,hL,bS];by_cases h:l.any badM=true;·rw[if_pos h];exact⟨_,rfl,fun e=>by cases e⟩
 ·rw[if_neg h,bS];refine⟨_,rfl,fun e=> ?_⟩
  have e:=of_decide_eq_true e;refine⟨by omega,fun x hx=> ?_⟩
  have hb:badM x=false:=by
   cases hb:badM x with
   |false=>rfl
   |true=>exact absurd (List.any_eq_true.2 ⟨x,hx,hb⟩) h
  simp only[badM,Bool.or_eq_false_iff,decide_eq_false_iff_not] at hb;omega
def gdR(y:Q3):Prop:=y.fTensor.fVals.length≤4200∧y.fTensor.fDims.length≤20
theorem s_Vals(v:List gVal)(h:v.length≤4200):Nq v v=some true:=by
 unfold Nq;have hL:K5 v v 0=some (.inl ()):=by
  refine D9 (F:=fun i=>K5 v v i) (l:=v) (fun _=>.inl ()) ?_ ?_
  ·rw[K5];simp[bS]
  ·intro i y t h0 h1 a3 ih;rw[K5,bS,if_pos h1,a3,bS,bS,if_neg (by simp),UF h0 h1 (by omega)]
   exact ih
 simp only[bS,hL];rw[if_neg (by simp)]
theorem Q3b(t:Qf)(h:t.fVals.length≤4200∧t.fDims.length≤20):CR t t=some true:=by
 unfold CR;rw[if_pos (by simp),r_Ints _ _ (by omega),bS,if_pos (by simp),s_Vals _ h.1,bS]
theorem PM(x:List Q3)(hl:x.length≤1048576)(h:∀y∈x,gdR y):D0 x x=some true:=by
 unfold D0;have hL:Y2 x x 0=some (.inl ()):=by
  refine YQ (F:=fun(_:Unit) i=>Y2 x x i) (l:=x) (fun _ _=>True) (fun _ _=>.inl ()) ?_ ?_ () trivial
  ·intro _ _;rw[Y2];simp[bS]
  ·intro i y t _ h0 h1 hm a3 _ ih;rw[Y2,bS,if_pos h1];simp only[a3,bS,Q3b _ (h y hm)];rw[if_neg (show ¬(!y.fName==y.fName)=true by simp)]
   simp only[if_true,bS];rw[if_neg (by simp),UF h0 h1 (by omega)]
   exact ih () trivial
 simp only[bS,hL];rw[if_neg (by simp)]
theorem P8(l:List Q3)(h:okM l):∀(bs:List Q9) (a3:List Q3),(∀y∈a3,gdR y)→(∀b∈bs,Kf b.fDims=0)→(match iniS l a3 bs with | .inl a=>(∀y∈a,gdR y)∧a.length=a3.length+bs.length | .inr a=>a.1=[])
 | [],a3,ha,_=>⟨ha,rfl⟩
 |b::t,a3,ha,hb=>by
  have hs:=hb b (by simp)
  have go:∀x:Q3,gdR x→(match iniS l (a3++[x]) t with | .inl a=>(∀y∈a,gdR y)∧a.length=a3.length+(b::t).length | .inr a=>a.1=[]):=fun x hx=>by
   have:=P8 l h t (a3++[x]) (fun y hy=>by
    rcases List.mem_append.1 hy with hy | hy
    ·exact ha y hy
    ·rw[List.mem_singleton.1 hy];exact hx) (fun q hq=>hb q (by simp[hq]))
   split at this
   ·rename_i a ea;exact⟨this.1,by rw[this.2];simp;omega⟩
   ·rename_i a ea;exact this
  rw[iniS];by_cases hu:b.fUse=1
  ·rw[if_pos hu];by_cases hp:pvE l b=0
   ·rw[if_neg (by simp[hp])]
    exact go _ (SD h _)
   ·rw[if_pos hp]
  ·rw[if_neg hu];obtain⟨s1,s2⟩:=LU hs;have:=(LR hs).1;exact go _ ⟨by show(List.replicate _ _).length≤4200;simp;omega,by show b.fDims.length≤20;omega⟩
theorem Q1a(n:Qd)(l:List Q3)(h:okM l):(iniR n l).1.length≤1048576∧∀y∈ (iniR n l).1,gdR y:=by
 unfold iniR;by_cases hv:(vd n).2=0
 ·obtain⟨v1,v2⟩:=vd_0 hv;rw[if_neg (by simp[hv])]
  have:=P8 l h n.fBufs [] (fun y hy=>by cases hy) v2
  cases hi:iniS l [] n.fBufs with
  |inl a=>rw[hi] at this;exact⟨by rw[this.2];simp;omega,this.1⟩
  |inr a=>rw[hi] at this;simp only[this];exact⟨by simp,fun y hy=>by cases hy⟩
 ·rw[if_pos hv];exact⟨by simp,fun y hy=>by cases hy⟩
theorem RD(l:List Q3)(h:okM l):∀(bs:List Q9) (a3:List Q3),(∀y∈a3,gdR y)→(∀y∈outS l a3 bs,gdR y)∧(outS l a3 bs).length≤a3.length+bs.length
 | [],a3,ha=>⟨ha,Nat.le_refl _⟩
 |b::t,a3,ha=>by
  rw[outS];by_cases hc:(fndT l b.fName).2=true∧b.fUse=2
  ·rw[if_pos hc];obtain⟨q1,q2⟩:=RD l h t (a3++[⟨b.fName,(fndT l b.fName).1⟩]) (fun y hy=>by
    rcases List.mem_append.1 hy with hy | hy
    ·exact ha y hy
    ·rw[List.mem_singleton.1 hy];exact SD h _)
   exact⟨q1,by simp at q2 ⊢;omega⟩
  ·rw[if_neg hc];obtain⟨q1,q2⟩:=RD l h t a3 ha;exact⟨q1,by simp;omega⟩
theorem s_lawI(n:Qd)(l:List Q3)(hb:okBs n.fBufs)(hl:okSs n.fBody)(hm:l.length≤4611686018427387904):Dg n l=some true:=by
 obtain⟨b1,e1,f1⟩:=a_Few n hb hl;obtain⟨b2,e2,f2⟩:=s_Few31 l hm;unfold Dg;simp only[bS,e1,e2,Wx];cases b1 with
 |false=>rfl
 |true=>
  cases b2 with
  |false=>rfl
  |true=>
   have h:=f2 rfl;have hn:=f1 rfl;obtain⟨g1,g2⟩:=Q1a n l h;obtain⟨o1,o2⟩:=RD l h n.fBufs [] (fun y hy=>by cases hy)
   rw[if_pos rfl,if_pos rfl,bS,if_neg (by simp),p_Init n l hb hl h,bS,r_Init n l hb hl h,bS,PM _ g1 g2,bS,if_pos rfl,if_pos (by simp),p_out n l h hn,bS,r_out n l h hn,bS,PM _ (by simp at o2;omega) o1,bS,if_pos rfl]
end Go.Proofs.YtolcgikajjkjgaaGreatDoor
end
section
namespace Go.Proofs.YtolcgikajjkjgaaGreatDoor
open Go HY Go.RowKit Go.ChangeShapes Go.WideShapes
set_option maxRecDepth 1000000
set_option linter.unusedVariables false
def Is(x:Q6):Prop:=True∧True∧True∧True∧True∧True
theorem u3:Tryz.prog.underlying 3=some (.int .i64):=by kernel_rfl
def Ir(x:Q9):Prop:=True∧Is x.fType∧(x.fDims.length*Tryz.prog.bytesOf 3≤reachBytes∧∀a∈x.fDims,True)∧True∧True
theorem u44:Tryz.prog.underlying 44=some (.slice 3):=by kernel_rfl
theorem c44:Tryz.prog.cellsOf 3=1:=by kernel_rfl
theorem u9:Tryz.prog.underlying 9=some .string:=by kernel_rfl
def Pk(x:Zu):Prop:=True∧fits x.fBy∧True
theorem u2:Tryz.prog.underlying 2=some (.int .i64):=by kernel_rfl
def LN(x:gLin):Prop:=fits x.fK∧(x.fL.length*Tryz.prog.bytesOf 74≤reachBytes∧∀a∈x.fL,Pk a)∧True
theorem u49:Tryz.prog.underlying 49=some (.slice 74):=by kernel_rfl
theorem c49:Tryz.prog.cellsOf 74=2:=by kernel_rfl
def La(x:Qi):Prop:=LN x.fLin∧True∧(x.fAt.length*Tryz.prog.bytesOf 51≤reachBytes∧∀a∈x.fAt,LN a)∧True
theorem u75:Tryz.prog.underlying 75=some (.slice 51):=by kernel_rfl
theorem c75:Tryz.prog.cellsOf 51=2:=by kernel_rfl
def SH(x:gVal):Prop:=fits x.fN∧fits x.fD∧True
inductive MS:Qb→Prop
 |mk (x:Q1) (h0:True) (h1:True) (h2:SH x.fVal) (h3:Is x.fType) (h4:LN x.fLin) (h5:(x.fIdx.length*Tryz.prog.bytesOf 77≤reachBytes∧∀a∈x.fIdx,La a)) (h6:x.fArgs.length*Tryz.prog.bytesOf 55≤reachBytes) (g6:∀a∈x.fArgs,MS a):MS (.mk x)
theorem u53:Tryz.prog.underlying 53=some (.slice 55):=by kernel_rfl
theorem c53:Tryz.prog.cellsOf 55=13:=by kernel_rfl
theorem u52:Tryz.prog.underlying 52=some (.slice 77):=by kernel_rfl
theorem c52:Tryz.prog.cellsOf 77=4:=by kernel_rfl
inductive Nn:Qe→Prop
 |mk (x:Qw) (h0:True) (h1:True) (h2:True) (h3:True) (h4:True) (h5:(x.fIdx.length*Tryz.prog.bytesOf 77≤reachBytes∧∀a∈x.fIdx,La a)) (h6:MS (.mk x.fExpr)) (h7:x.fBody.length*Tryz.prog.bytesOf 57≤reachBytes) (g7:∀a∈x.fBody,Nn a):Nn (.mk x)
theorem u23:Tryz.prog.underlying 23=some (.slice 57):=by kernel_rfl
theorem c23:Tryz.prog.cellsOf 57=20:=by kernel_rfl
def Pl(x:Qd):Prop:=(x.fBufs.length*Tryz.prog.bytesOf 46≤reachBytes∧∀a∈x.fBufs,Ir a)∧(x.fBody.length*Tryz.prog.bytesOf 57≤reachBytes∧∀a∈x.fBody,Nn a)∧True
theorem u22:Tryz.prog.underlying 22=some (.slice 46):=by kernel_rfl
theorem c22:Tryz.prog.cellsOf 46=8:=by kernel_rfl
def TF(x:Qf):Prop:=Is x.fType∧(x.fDims.length*Tryz.prog.bytesOf 3≤reachBytes∧∀a∈x.fDims,True)∧(x.fVals.length*Tryz.prog.bytesOf 48≤reachBytes∧∀a∈x.fVals,SH a)∧True
theorem u68:Tryz.prog.underlying 68=some (.slice 48):=by kernel_rfl
theorem c68:Tryz.prog.cellsOf 48=2:=by kernel_rfl
def Q1f(x:Q3):Prop:=True∧TF x.fTensor∧True
theorem u33:Tryz.prog.underlying 33=some (.slice 72):=by kernel_rfl
theorem c33:Tryz.prog.cellsOf 72=8:=by kernel_rfl
section
variable {H : Type} {enc : TypeId × Value → H} {w : World} {base : Nat} {spare : Nat → Bool} {held : Bool}
theorem Fh{P:Program}(n:Nat){t:TypeId}(ht:P.underlying t=some (.int .i64)):X5 enc P w base spare held n t (fun a:Int=>[.int .i64 a]) (fun a d=>Sz P t d→fits a):=
 (Aj n ht).to id (fun _=>rfl) fun a d h _=>by
  have h1:=h.1;simp only[Lit.wf,Bool.and_eq_true,decide_eq_true_eq] at h1;have e1:IntKind.i64.min= -9223372036854775808:=by decide
  have e2:IntKind.i64.max=9223372036854775807:=by decide
  rw[e1,e2] at h1;exact h1
theorem RJ(n:Nat):X5 enc Tryz.prog w base spare held n 43 (fun x:Q6=>(Qc x).cells) (fun x d=>Sz Tryz.prog 43 d→Is x):=
 ((UA Tryz.underlying43 (by kernel_rfl) (Zg (Cj n u3) (Zg (Cj n u3) (Zg (Cj n u3) (Zg (Cj n u3) (Zg (Cj n u3) (WV n))))))).to (fun x=>Q6.mk x.1 x.2.1 x.2.2.1 x.2.2.2.1 x.2.2.2.2.1) (fun _=>rfl) (fun a d h hz=>h hz)).le (Nat.le_succ n)
theorem Q0m(n:Nat):X5 enc Tryz.prog w base spare held n 46 (fun x:Q9=>(Q5 x).cells) (fun x d=>Sz Tryz.prog 46 d→Ir x):=
 ((UA Tryz.underlying46 (by kernel_rfl) (Zg (Et n u9) (Zg (RJ n) (Zg ((UM eI u44 c44 (by decide) (fun _=>rfl) (Cj n u3)).le (Nat.le_succ _)) (Zg (Cj n u3) (WV n)))))).to (fun x=>Q9.mk x.1 x.2.1 x.2.2.1 x.2.2.2.1) (fun _=>rfl) (fun a d h hz=>h hz)).le (Nat.le_succ n)
theorem Q37(n:Nat):X5 enc Tryz.prog w base spare held n 74 (fun x:Zu=>(Qq x).cells) (fun x d=>Sz Tryz.prog 74 d→Pk x):=
 ((UA Tryz.underlying74 (by kernel_rfl) (Zg (Et n u9) (Zg (Fh n u2) (WV n)))).to (fun x=>Zu.mk x.1 x.2.1) (fun _=>rfl) (fun a d h hz=>h hz)).le (Nat.le_succ n)
theorem SK(n:Nat):X5 enc Tryz.prog w base spare held n 51 (fun x:gLin=>(Qg x).cells) (fun x d=>Sz Tryz.prog 51 d→LN x):=
 ((UA Tryz.underlying51 (by kernel_rfl) (Zg (Fh n u2) (Zg ((UM Qq u49 c49 (by decide) (fun _=>rfl) (Q37 n)).le (Nat.le_succ _)) (WV n)))).to (fun x=>gLin.mk x.1 x.2.1) (fun _=>rfl) (fun a d h hz=>h hz)).le (Nat.le_succ n)
theorem Ai(n:Nat):X5 enc Tryz.prog w base spare held n 77 (fun x:Qi=>(Q7 x).cells) (fun x d=>Sz Tryz.prog 77 d→La x):=
 ((UA Tryz.underlying77 (by kernel_rfl) (Zg (SK n) (Zg (Et n u9) (Zg ((UM Qg u75 c75 (by decide) (fun _=>rfl) (SK n)).le (Nat.le_succ _)) (WV n))))).to (fun x=>Qi.mk x.1 x.2.1 x.2.2.1) (fun _=>rfl) (fun a d h hz=>h hz)).le (Nat.le_succ n)
theorem Br(n:Nat):X5 enc Tryz.prog w base spare held n 48 (fun x:gVal=>(Qk x).cells) (fun x d=>Sz Tryz.prog 48 d→SH x):=
 ((UA Tryz.underlying48 (by kernel_rfl) (Zg (Fh n u2) (Zg (Fh n u2) (WV n)))).to (fun x=>gVal.mk x.1 x.2.1) (fun _=>rfl) (fun a d h hz=>h hz)).le (Nat.le_succ n)
theorem PC:∀n,X5 enc Tryz.prog w base spare held n 55 (fun x:Q1=>(Q2 x).cells) (fun x d=>Sz Tryz.prog 55 d→MS (.mk x))
 |0=>rzZero _ _
 |n+1=>(UA Tryz.underlying55 (by kernel_rfl) (Zg (Cj n u3) (Zg (Et n u9) (Zg (Br n) (Zg (RJ n) (Zg (SK n) (Zg ((UM Q7 u52 c52 (by decide) (fun _=>rfl) (Ai n)).le (Nat.le_succ _)) (Zg ((UM Qr u53 c53 (by decide) (fun _=>rfl) ((PC n).to Qb.mk (fun x=>by rw[A3]) (fun x d h=>h))).le (Nat.le_succ _)) (WV n))))))))).to (fun x=>(KG.mk x.1 x.2.1 x.2.2.1 x.2.2.2.1 x.2.2.2.2.1 x.2.2.2.2.2.1 x.2.2.2.2.2.2.1:Q1)) (fun _=>rfl) (fun a d h hz=>by obtain⟨p0,p1,p2,p3,p4,p5,p6,_⟩:=h hz;exact .mk _ p0 p1 p2 p3 p4 p5 p6.1 p6.2)
theorem PD:∀n,X5 enc Tryz.prog w base spare held n 57 (fun x:Qw=>(Qx x).cells) (fun x d=>Sz Tryz.prog 57 d→Nn (.mk x))
 |0=>rzZero _ _
 |n+1=>(UA Tryz.underlying57 (by kernel_rfl) (Zg (Cj n u3) (Zg (Et n u9) (Zg (Cj n u3) (Zg (Cj n u3) (Zg (Cj n u3) (Zg ((UM Q7 u52 c52 (by decide) (fun _=>rfl) (Ai n)).le (Nat.le_succ _)) (Zg (PC n) (Zg ((UM Qh u23 c23 (by decide) (fun _=>rfl) ((PD n).to Qe.mk (fun x=>by rw[A4]) (fun x d h=>h))).le (Nat.le_succ _)) (WV n)))))))))).to (fun x=>(Tw.mk x.1 x.2.1 x.2.2.1 x.2.2.2.1 x.2.2.2.2.1 x.2.2.2.2.2.1 x.2.2.2.2.2.2.1 x.2.2.2.2.2.2.2.1:Qw)) (fun _=>rfl) (fun a d h hz=>by obtain⟨p0,p1,p2,p3,p4,p5,p6,p7,_⟩:=h hz;exact .mk _ p0 p1 p2 p3 p4 p5 p6 p7.1 p7.2)
theorem Q1m(n:Nat):X5 enc Tryz.prog w base spare held n 57 (fun x:Qe=>(Qh x).cells) (fun x d=>Sz Tryz.prog 57 d→Nn x):=(PD n).to Qe.mk (fun x=>by rw[A4]) (fun x d h=>h)
theorem Q38(n:Nat):X5 enc Tryz.prog w base spare held n 25 (fun x:Qd=>(Qp x).cells) (fun x d=>Sz Tryz.prog 25 d→Pl x):=
 ((UA Tryz.underlying25 (by kernel_rfl) (Zg ((UM Q5 u22 c22 (by decide) (fun _=>rfl) (Q0m n)).le (Nat.le_succ _)) (Zg ((UM Qh u23 c23 (by decide) (fun _=>rfl) (Q1m n)).le (Nat.le_succ _)) (WV n)))).to (fun x=>Qd.mk x.1 x.2.1) (fun _=>rfl) (fun a d h hz=>h hz)).le (Nat.le_succ n)
theorem Q0n(n:Nat):X5 enc Tryz.prog w base spare held n 70 (fun x:Qf=>(QA x).cells) (fun x d=>Sz Tryz.prog 70 d→TF x):=
 ((UA Tryz.underlying70 (by kernel_rfl) (Zg (RJ n) (Zg ((UM eI u44 c44 (by decide) (fun _=>rfl) (Cj n u3)).le (Nat.le_succ _)) (Zg ((UM Qk u68 c68 (by decide) (fun _=>rfl) (Br n)).le (Nat.le_succ _)) (WV n))))).to (fun x=>Qf.mk x.1 x.2.1 x.2.2.1) (fun _=>rfl) (fun a d h hz=>h hz)).le (Nat.le_succ n)
theorem Q1l(n:Nat):X5 enc Tryz.prog w base spare held n 72 (fun x:Q3=>(Q8 x).cells) (fun x d=>Sz Tryz.prog 72 d→Q1f x):=
 ((UA Tryz.underlying72 (by kernel_rfl) (Zg (Et n u9) (Zg (Q0n n) (WV n)))).to (fun x=>Q3.mk x.1 x.2.1) (fun _=>rfl) (fun a d h hz=>h hz)).le (Nat.le_succ n)
end
theorem CM:reachBytes=140737488351232:=rfl
theorem OA:Tryz.prog.bytesOf 74=24:=by kernel_rfl
theorem BY:Tryz.prog.bytesOf 51=32:=by kernel_rfl
theorem Hx:Tryz.prog.bytesOf 77=72:=by kernel_rfl
theorem Oz:Tryz.prog.bytesOf 55=160:=by kernel_rfl
theorem EZ:Tryz.prog.bytesOf 57=256:=by kernel_rfl
theorem FS:Tryz.prog.bytesOf 72=104:=by kernel_rfl
theorem okL_r{l:gLin}(h:LN l):okL l:=by
 obtain⟨h1,⟨h2,h3⟩,_⟩:=h;rw[OA,CM] at h2;exact⟨h1,h2,fun m hm=>(h3 m hm).2.1⟩
theorem okI_r{x:Qi}(h:La x):okI x:=by
 obtain⟨h1,_,⟨h2,h3⟩,_⟩:=h;rw[BY,CM] at h2;exact⟨okL_r h1,h2,fun l hl=>okL_r (h3 l hl)⟩
theorem okE_r:∀e,MS e→okE e:=Qb.ind fun x ih h=>by
 cases h with
 |mk _ h0 h1 h2 h3 h4 h5 h6 g6=>
  rw[Oz,CM] at h6;have a3:=h5.1;rw[Hx,CM] at a3;exact .mk x (okL_r h4) a3 (fun i hi=>okI_r (h5.2 i hi)) h6 (fun a ha=>ih a ha (g6 a ha))
theorem okS_r:∀e,Nn e→okS e:=Qe.ind fun x ih h=>by
 cases h with
 |mk _ h0 h1 h2 h3 h4 h5 h6 h7 g7=>
  rw[EZ,CM] at h7;have a3:=h5.1;rw[Hx,CM] at a3;exact .mk x a3 (fun i hi=>okI_r (h5.2 i hi)) (okE_r _ h6) h7 (fun a ha=>ih a ha (g7 a ha))
theorem Q12:Tryz.prog.bytesOf 3=8:=by kernel_rfl
theorem F2:1≤Tryz.prog.bytesOf 46:=of_decide_eq_true (by kernel_rfl)
theorem okBf_r{b:Q9}(h:Ir b):okBf b:=by
 obtain⟨_,_,⟨h1,_⟩,_⟩:=h;rw[Q12,CM] at h1;unfold okBf;omega
theorem okN_r{n:Qd}(h:Pl n):okBs n.fBufs∧okSs n.fBody:=by
 obtain⟨⟨h1,h2⟩,⟨h3,h4⟩,_⟩:=h;rw[CM] at h1;rw[EZ,CM] at h3;have hb:=Nat.le_mul_of_pos_right n.fBufs.length F2;exact⟨⟨by omega,fun b hb=>okBf_r (h2 b hb)⟩,h3,fun s hs=>okS_r s (h4 s hs)⟩
end Go.Proofs.YtolcgikajjkjgaaGreatDoor
end
section
namespace HY
open Go Go.RowKit Go.ChangeShapes Go.WideShapes Go.ChangeAt
theorem IU{H:Type}{enc:TypeId×Value→H}{P:Program}(hl:laidOutB P=true){W W':World}(hb:Below W.heap.size W W'):∀ {ts:List TypeId} {vs:List Value} {ds:List (DataW H)} {ps:List MemPlace},
  (∀t∈ts,P.readableRec t=true∧t<P.types.size)→DataW.TrodAll enc P W 0 (fun _=>true) true ts vs ds ps→(∀p∈ps,p.block<W.heap.size)→DataW.TrodAll enc P W' 0 (fun b=>decide (b<W.heap.size)) true ts vs ds ps
 | [],[],[],_,_,h,_=>h
 |t::ts,v::vs,d::ds,_,ht,⟨p,q,h1,h2,e⟩,hp=>
  ⟨p,q,Below.trod hl (ht t (List.mem_cons_self ..)).1 (ht t (List.mem_cons_self ..)).2 h1 hb (fun x hx=>hp x (by rw[e];exact List.mem_append_left _ hx)),
   IU hl hb (fun t' h'=>ht t' (List.mem_cons_of_mem _ h')) h2 (fun x hx=>hp x (by rw[e];exact List.mem_append_right _ hx)),e⟩
 | [],_::_,_,_,_,h,_=>h.elim
 | [],[],_::_,_,_,h,_=>h.elim
 |_::_,[],_,_,_,h,_=>h.elim
 |_::_,_::_,[],_,_,h,_=>h.elim
structure LawOk (P:Program) (f:Func) (tb:TypeId):Prop where
 laid:laidOutB P=true
 pars:(f.params.toList.all fun t=>P.readableRec t&&decide (t<P.types.size))=true
 res:f.resultTypes= #[tb]
 bool:P.underlying tb=some .bool
theorem Q1i{H:Type}{enc:TypeId×Value→H}{P:Program}{f:Func}{tb:TypeId}(a3:LawOk P f tb){s:ChangeSpec}{W W':World}{args:Array Value}{ds gs:List (DataW H)}{before:List MemPlace}(hv:s.vars=[])
  (hW:DataW.Whole enc P f.params.toList s.vars false W args.toList ds gs before) (a4:s.fn H (ds++gs)= {results:=[.lit (.bool true)],args:=ds}) (hb:Below W.heap.size W W'):s.post enc P f false true false false W args (.bool true) W':=by
 have a9:=hW.lt;have a8:=hW;obtain⟨p,q,hA,hV,rfl,_,_⟩:=hW;rw[hv] at hV;obtain⟨rfl,rfl⟩:gs=[]∧q=[]:=by
  cases gs with
  |nil=>exact⟨rfl,hV⟩
  |cons=>exact hV.elim
 have hp:=a3.pars;rw[List.all_eq_true] at hp;refine⟨ds,[],p++[],[],p,[],a8,?_,?_,?_,hb.frame _,fun h=>by cases h⟩
 ·rw[a4,a3.res];exact⟨[],[],shut_bool a3.bool _,rfl,rfl⟩
 ·rw[a4];exact IU a3.laid hb (fun t ht=>by have:=hp t ht;simp only[Bool.and_eq_true,decide_eq_true_eq] at this;exact this) hA (fun x hx=>a9 x (List.mem_append_left _ hx))
 ·rw[a4,hv];exact rfl
end HY
end
section
namespace HY
open Go Go.RowKit Go.ChangeShapes Go.WideShapes Go.ChangeAt
theorem Q05{P:Program}{gl:Nat→AV}{f:FuncId}{args:List AV}(a5:MA P f)(h:Pu P gl f args (.bool true)){W:World}{vs:Array Value}(hl:args.length=vs.size)(a6:∀g,RelI (HV.full W) (gl g) (.pointer (some ⟨g,0,none⟩)))(a7:GvOk gl (fun k=>k<W.heap.size) W)
  (hr:∀(j:Nat) (x:AV) (v:Value),args[j]? =some x→vs[j]? =some v→RelI (HV.full W) x v):Calls P f vs W fun e W'=>e= .returned (.bool true)∧Below W.heap.size W W':=by
 refine(Ans.calls (he:=a5)<| h.ok (fun _=>⟨0,0,0⟩) (HV.full W) (fun k=>k<W.heap.size) (HV.full W) W vs
  {sat:=Q2i W,old:=fun _ _ _=>rfl,low:=fun _ h=>h,fresh:=fun _ _=>Zq _,box:=(fun _ _ hh=>by rw[Zq] at hh;cases hh),sepR:=(fun _ _ hh=>by rw[Zq] at hh;cases hh),injR:=(fun _ _ _ _ hh=>by rw[Zq] at hh;cases hh),gv:=a7,gl:=a6,ty:=(fun _ _ _ hh=>by rw[Zq] at hh;cases hh)} hl
  (fun j x v hx hv=>.imm _ _ (hr j x v hx hv))).mono fun e W' a4=> ?_
 obtain⟨v,m',H',he,hb,_,hv⟩:=a4;have:=hv.bool_inv;subst this;exact⟨he,hb.toB⟩
theorem Q02{H:Type}{enc:TypeId×Value→H}{C:Checked}{os:Os}{f:FuncId}{fn:Func}{s:ChangeSpec}{X:World→Prop}(hX:∀w w':World,w.heap=w'.heap→X w→X w')
  (own:ownKnob C.prog.godebug=none) (a3:os.Started) (a5:C.prog.inits.idxOf? f=none) (aa:C.prog.funcs[f]? =some fn)
  (a4:∃(w:World) (tape:Tape) (i:Input),w.os=os∧(w.forCall tape i).Shaped C.prog∧i.vars=[]∧Input.okWide C.prog (w.forCall tape i) .any w.heap.size f i∧
   ((s.pre enc C.prog fn [] false (w.forCall tape i).memory i.args∧X (w.forCall tape i).memory)∧sizedMet enc C.prog fn (OpenSpec.ofChange s) false (w.forCall tape i).memory i.args)∧({}:Assume).holds C.prog (lone (Frame.enter C.prog f i.args .normal) [] (w.forCall tape i)))
  (Ry:∀(W:World) (base:Nat) (args:Array Value) (ds gs:List (DataW H)) (before:List MemPlace),
   (∀(j:Nat) t v,fn.params[j]? =some t→args[j]? =some v→Value.okWide C.prog W .any base t v)→DataW.Whole enc C.prog fn.params.toList s.vars false W args.toList ds gs before→X W→W.ShapedOpen C.prog→(DataW.weightsEach C.prog (fn.params.toList++s.plain.varTypes C.prog) (ds++gs)).all (· ≤reachBytes)=true→
   Calls C.prog f args W fun e W'=>∃v,e= .returned v∧s.post enc C.prog fn false true false false W args v W'):
  ReturnsInHanded {} C os f .any (fun w args=>(s.pre enc C.prog fn [] false w args∧X w)∧sizedMet enc C.prog fn (OpenSpec.ofChange s) false w args) (s.post enc C.prog fn false true false false):=by
 refine returnsInHanded_of_calls own a3 a5 a4 fun w tape i _ ac _ ab a7 _=> ?_
 obtain⟨_,_,_,fn',a6,_,_,_,_,a8⟩:=ab;obtain rfl:fn'=fn:=Option.some.inj (a6.symm.trans aa);obtain⟨⟨⟨ds,gs,before,hw,_⟩,hx⟩,hz⟩:=a7;refine(Ry (w.forCall tape i) w.heap.size i.args ds gs before a8 (DataW.Whole.of_heap (w':=w.forCall tape i) (by rfl) hw) (hX _ _ (by rfl) hx) ac (hz.weights hw)).mono fun e W' ⟨v,he,hp⟩=> ?_
 subst he;exact ChangeSpec.post_blind hp
theorem R4{P:Program}{w:World}:∀ {l:List (String×DataW Unit)} {ps:List MemPlace} (i:Nat) {n:String} {d:DataW Unit},DataW.LaidVars P w l ps→l[i]? =some (n,d)→
  ∃g t cs a3 p,P.globalNamed n=some g∧(P.globals[g]?).map (·.type)=some t∧w.var? P n=some cs∧DataW.trod (fun _=>()) P w 0 (fun _=>true) false a3 t cs.toList=some (d,p)
 | [],_,i,_,_,_,hi=>by simp at hi
 | (n0,d0)::r,ps,i,n,d,h,hi=>by
  obtain⟨g,t,cs,a3,p,q,h1,h2,h3,h4,h5,_⟩:=h;cases i with
  |zero=>cases hi;exact⟨g,t,cs,a3,p,h1,h2,h3,h4⟩
  |succ i=>exact R4 i h5 hi
def litZ(k:IntKind)(z:Int):DataW Unit:=.lit (.int k z)
theorem Q04{P:Program}{w:World}{laid:List (String×DataW Unit)}(hm:laidMetH P laid w)(a9:(laid.all fun x=>x.2.handleName?.isNone)=true)(i:Nat){n:String}{k:IntKind}{zs:List Int}(hi:laid[i]? =some (n,.agg (zs.map (litZ k))))
  {g t e:Nat} (hg:P.globalNamed n=some g) (a7:(P.globals[g]?).map (·.type)=some t) (hu:P.underlying t=some (.array zs.length e)) (hc:P.cellsOf e=1) (aa:P.underlying e=some (.int k)) (j:Nat) (z:Int) (hj:zs[j]? =some z):
  w.cell? ⟨g,j,none⟩=some (.int k z):=by
 rw[MakeChecks.laidMetH_plain _ _ _ a9] at hm;obtain⟨ps,hl,_,_⟩:=hm;obtain⟨g',t',cs,ae,p,e1,e2,e3,e4⟩:=R4 i hl hi;rw[hg] at e1;cases e1;rw[a7] at e2;cases e2;obtain⟨xs,m,rfl,ab,au,az,a6⟩:=DataW.trod_array hu e4;rw[World.var?_cell hg e3 j];have a8:j<zs.length:=(List.getElem?_eq_some_iff.1 hj).1;have h1:=a6 j a8;rw[hc] at h1;have a3:xs[j]? =some (xs[j]'(by omega)):=List.getElem?_eq_getElem (by omega)
 rw[a3] at h1;obtain⟨v,h2,h3,_⟩:=DataW.trod_int aa h1;have h4:(xs.map (·.1))[j]? =some (.lit (.int k v)):=by rw[List.getElem?_map,a3,Option.map_some,h3]
 have h5:(.agg (zs.map (litZ k)):DataW Unit)= .agg (xs.map (·.1)):=congrArg Prod.fst ab;have h6:zs.map (litZ k)=xs.map (·.1):=by injection h5
 rw[← h6,List.getElem?_map,hj,Option.map_some] at h4;simp only[litZ,Option.some.injEq,DataW.lit.injEq,Lit.int.injEq,true_and] at h4;subst h4;have h7:=congrArg (·[0]?) h2;simp only[Nat.mul_one,List.getElem?_take,List.getElem?_drop,Nat.add_zero] at h7;simpa using h7
theorem tab_rel{W:World}{g:Nat}{k:IntKind}{zs:List Int}(hz:0<zs.length)(h:∀(j:Nat) (z:Int),zs[j]? =some z→W.cell? ⟨g,j,none⟩=some (.int k z)):RelI (HV.full W) (.ip zs.length [.agg (zs.map (.int k))] 0 0) (.pointer (some ⟨g,0,none⟩)):=by
 have a5:∀(i:Nat) (x:AV),[AV.agg (zs.map (AV.int k))][i]? =some x→i=0∧x= .agg (zs.map (.int k)):=fun i x hx=>by
  cases i with
  |zero=>simp at hx;exact⟨rfl,hx.symm⟩
  |succ i=>simp at hx
 have a7:∀(j:Nat) (c:AV),(zs.map (AV.int k))[j]? =some c→∃z,zs[j]? =some z∧c= .int k z:=fun j c hc=>by
  rw[List.getElem?_map,Option.map_eq_some_iff] at hc;obtain⟨z,h1,rfl⟩:=hc;exact⟨z,h1,rfl⟩
 suffices hs:RelI (HV.full W) (.ip zs.length [.agg (zs.map (.int k))] 0 0) (.pointer (some ⟨g,0+0*zs.length+0,none⟩)) by
  rwa [show 0+0*zs.length+0=0 by omega] at hs
 refine RelI.ip zs.length [.agg (zs.map (.int k))] g 0 0 0 (fun _ j=>.int k ((zs[j]?).getD 0)) hz (by simp) (fun i x hx=> ?_) (fun i x j c hx hc=> ?_) (fun i x j c hx hc=> ?_)
 ·obtain⟨rfl,rfl⟩:=a5 i x hx;show(zs.map (AV.int k)).length=_;simp
 ·obtain⟨rfl,rfl⟩:=a5 i x hx;obtain⟨z,a4,rfl⟩:=a7 j c hc;rw[a4];refine⟨?_,rfl⟩;show W.cell? ⟨g,0+0*zs.length+j,none⟩=_;rw[show 0+0*zs.length+j=j by omega]
  exact h j z a4
 ·obtain⟨rfl,rfl⟩:=a5 i x hx;obtain⟨z,a4,rfl⟩:=a7 j c hc;rw[a4];exact .int _ _
theorem tab_gv{P:Program}{W:World}(h:W.ShapedOpen P){g n t:Nat}{zero:Array Value}(hg:g<P.globals.size)(h0:((begin P (fun _ _=>0) default).world.heap[g]?).bind Obj.row? =some (zero,t))(hz:zero.size=n):g<W.heap.size∧∃C e fr,W.heap[g]? =some (.cells C e fr)∧C.size=n:=by
 obtain⟨cs,h1,h2,_⟩:=h.1 g zero t hg h0;refine⟨?_,cs,t,_,h1,by omega⟩
 rcases Nat.lt_or_ge g W.heap.size with h | h
 ·exact h
 ·rw[Array.getElem?_eq_none h] at h1;cases h1
end HY
end
section
namespace Go.Proofs.YtolcgikajjkjgaaGreatDoor
open Go HY Go.RowKit Go.ChangeShapes Go.WideShapes Go.ChangeAt
set_option linter.unusedVariables false
theorem own:ownKnob Tryz.prog.godebug=none:=by kernel_rfl
theorem lawOk:LawOk Tryz.prog Tryz.f4 4:=⟨by kernel_rfl,by kernel_rfl,by kernel_rfl,by kernel_rfl⟩
def Eg:List (String×DataW Unit):=[("unicode.White_Space",Rows.laid_unicode_White_Space),("strings.asciiSpace",Rows.laid_strings_asciiSpace)]
def spZ:List Int:=List.replicate 9 0++List.replicate 5 1++List.replicate 18 0++[1]++List.replicate 223 0
theorem sp_eq:spaces=spZ.map (.int .u8):=by kernel_rfl
theorem laid_sp:Rows.laid_strings_asciiSpace= .agg (spZ.map (litZ .u8)):=by kernel_rfl
theorem Q0f{a b:Nat}(h:Nat.blt a b=true):a<b:=Nat.le_of_ble_eq_true h
set_option maxRecDepth 100000 in
theorem gls_ok{W:World}(h:laidMetH Tryz.prog Eg W)(g:Nat):RelI (HV.full W) (gls g) (.pointer (some ⟨g,0,none⟩)):=by
 unfold gls;cases h1:Nat.beq g 0 with
 |true=>
  obtain rfl:=Nat.eq_of_beq_eq_true h1;have:=tab_rel (W:=W) (g:=0) (k:=.u8) (zs:=spZ) (Q0f (by kernel_rfl)) fun j z hj=>Q04 h (by kernel_rfl) 1 (n:= "strings.asciiSpace") (by rw[← laid_sp];rfl) (g:=0) (t:=209) (e:=5) (by kernel_rfl) (by kernel_rfl) (by kernel_rfl) (by kernel_rfl) (by kernel_rfl) j z hj
  rw[← sp_eq] at this;exact this
 |false=>exact .undef _
theorem gv_ok{W:World}(h:W.ShapedOpen Tryz.prog):GvOk gls (fun k=>k<W.heap.size) W:=fun g sz cs hg=>by
 unfold gls at hg;cases h1:Nat.beq g 0 with
 |true=>
  obtain rfl:=Nat.eq_of_beq_eq_true h1;cases hg;exact tab_gv h (g:=0) (n:=256) (zero:=Array.replicate 256 (.int .u8 0)) (t:=209) (of_decide_eq_true (by kernel_rfl)) (by kernel_rfl) (by kernel_rfl)
 |false=>rw[h1] at hg;cases hg
theorem relAgg{K:HV}{ys:List AV}{cs:Array Value}(h:RelL K ys (Value.agg cs).cells.toList):RelI K (.agg ys) (.agg cs):=by
 have hc:(Value.agg cs).cells=cs:=rfl;rw[hc] at h;refine .agg ys cs (by rw[h.1];simp) (fun v hv=> ?_) fun j a v ha hv=>(h.2 j a v ha (by simpa using hv)).2
 obtain⟨j,hj,rfl⟩:=Array.mem_iff_getElem.1 hv;have hl:j<ys.length:=by have:=h.1;simp at this;omega
 obtain⟨h1,h2⟩:=h.2 j ys[j] cs[j] (List.getElem?_eq_getElem hl) (by simp[hj])
 exact h2.oneCell h1
set_option maxRecDepth 100000 in
theorem Ry(H:Type)(enc:TypeId×Value→H)(W:World)(base:Nat)(args:Array Value)(ds gs:List (DataW H))(before:List MemPlace)
  (a3:∀(j:Nat) t v,Tryz.f4.params[j]? =some t→args[j]? =some v→Value.okWide Tryz.prog W .any base t v)
  (hW:DataW.Whole enc Tryz.prog Tryz.f4.params.toList Rows.interpInitsSpec.vars false W args.toList ds gs before)
  (hL:laidMetH Tryz.prog Eg W) (hS:W.ShapedOpen Tryz.prog) (hz:(DataW.weightsEach Tryz.prog (Tryz.f4.params.toList++Rows.interpInitsSpec.plain.varTypes Tryz.prog) (ds++gs)).all (· ≤reachBytes)=true):
  Calls Tryz.prog 4 args W fun e W'=>∃v,e= .returned v∧Rows.interpInitsSpec.post enc Tryz.prog Tryz.f4 false true false false W args v W':=by
 have a8:=hW;obtain⟨p,q,a7,hV,rfl,az,b0⟩:=hW;have hA:DataW.TrodAll enc Tryz.prog W 0 (fun _=>true) true Tryz.f4.params.toList args.toList ds p:=a7
 rw[Tryz.params4] at hA a3 hz;obtain⟨v0,b3,d0,aq,p0,q0,a5,rfl,rfl,h0,r0⟩:=trodAll_cons hA;obtain⟨v1,b4,d1,ar,p1,q1,a6,rfl,rfl,h1,r1⟩:=trodAll_cons r0;obtain⟨rfl,rfl,rfl⟩:=trodAll_nil r1;obtain rfl:args= #[v0,v1]:=by cases args;simp_all
 obtain⟨rfl,rfl⟩:=trodVars_none hV;have a4:SzE Tryz.prog [25,33] [d0,d1]:=fun k hk=>by
  have:=List.all_eq_true.1 hz k hk;simpa using this
 obtain⟨z0,a4⟩:=a4.cons;obtain⟨z1,a4⟩:=a4.cons;obtain⟨c0,rfl,_⟩:=okWide_struct Tryz.underlying25 (a3 0 25 v0 rfl rfl);obtain⟨a1,len1,ac,rfl⟩:=okWide_slice u33 (a3 1 33 v1 rfl rfl);obtain⟨x0,i0,aa⟩:=X5.arg (Q38 (enc:=enc) (w:=W) (base:=0) (spare:=fun _=>true) (held:=true)) h0
 obtain⟨x1,i1,ab⟩:=X5.arg (fun n=>(UM Q8 u33 c33 (by decide) (fun _=>rfl) (Q1l (enc:=enc) (w:=W) (base:=0) (spare:=fun _=>true) (held:=true) n)).le (Nat.le_succ _)) h1
 refine(Q05 (D8 (by kernel_rfl)) (IY x0 x1 true (s_lawI x0 x1 (okN_r (i0 z0)).1 (okN_r (i0 z0)).2 (by have q1:=(i1 z1).1;rw[FS,CM] at q1;omega))) (W:=W) rfl (gls_ok hL) (gv_ok hS) fun j t v ht hv=> ?_).mono fun e W' ⟨he,hb⟩=>⟨_,he,Q1i lawOk rfl a8 rfl hb⟩
 match j with
 |0=>cases ht;cases hv;exact relAgg aa
 |1=>cases ht;cases hv;exact ab.val1 (fun _ h=>by cases h)
 |j+2=>cases ht
set_option maxRecDepth 100000 in
theorem lifted(os:Os)(a3:os.Started)(H:Type)(enc:TypeId×Value→H):
  ReturnsInHanded {} Tryz.checked os 4 .any (fun w args=>(Rows.interpInitsSpec.pre enc Tryz.prog Tryz.f4 [] false w args∧laidMetH Tryz.prog Eg w)∧sizedMet enc Tryz.prog Tryz.f4 (OpenSpec.ofChange Rows.interpInitsSpec) false w args)
   (Rows.interpInitsSpec.post enc Tryz.prog Tryz.f4 false true false false):=by
 refine Q02 (C:=Tryz.checked) (X:=fun w=>laidMetH Tryz.prog Eg w) (fun _ _ hh h=>h.of_heap hh) own a3 (by kernel_rfl) Tryz.func4
  (ChangeSpec.witness_shaped (enc:=enc) (C:=Tryz.checked) (os:=os) (X:=fun w _=>laidMetH Tryz.prog Eg w) false (World.laidAll Tryz.prog os Eg)
   #[.agg #[.slice none 0 0,.slice none 0 0],.slice none 0 0] 8 (World.laidAll_os _ _ _)
   (World.shaped_of_ZipB (by kernel_rfl) (by kernel_rfl)) (by kernel_rfl) (by kernel_rfl) (by kernel_rfl)
   (by rw[MakeChecks.laidMetH_plain _ _ _ (by kernel_rfl)];exact laidMet_laidAll _ (by kernel_rfl) (by kernel_rfl))) ?_
 intro W base args ds gs before a4 hW hL hS hz;exact Ry H enc W base args ds gs before a4 hW hL hS hz
theorem Q1n:Rows.InterpInitsSaid:=
 OpenClaim.holds_of_wide 4 Tryz.f4 rfl rfl rfl rfl rfl rfl rfl ⟨rfl,rfl,rfl,rfl,rfl⟩ rfl rfl rfl rfl rfl (by kernel_rfl) Tryz.func4 (by kernel_rfl)
  (of_decide_eq_true (by kernel_rfl)) (by unfold Func.isWrapper;first | (rw[if_pos (by decide+kernel)];kernel_rfl) | (rw[if_neg (by decide+kernel)];exact⟨rfl,rfl⟩))
  (fun os a3 H enc _=>lifted os a3 H enc)
theorem proved:Rows.InterpInitsCardSaid:=
 Claim7.holds_tied_plain_at .later [] [.listed,.data] true (true,"e7b776e497e40b0af3a67795bb7d447ef9dce8f2baa0f9e8db909fe05838c071") false Q1n (fun _ h=>by cases h) (by kernel_rfl) (fun _ h=>by cases h) interpInits_row_tie rfl ⟨rfl,rfl⟩ (by kernel_rfl) rfl
  (fun f fn hf a4=>by
   obtain rfl:f=4:=Option.some.inj ((show Tryz.prog.funcNamed "brocade/brocadelaw31.InterpInits" =some 4 by kernel_rfl).symm.trans hf) |>.symm
   obtain rfl:fn=Tryz.f4:=(Option.some.inj (Tryz.func4.symm.trans a4)).symm;exact⟨by kernel_rfl,fun j t ht=>by
    rw[Tryz.params4] at ht;have hm:t∈ [25,33]:=by simpa using Array.mem_of_getElem? ht
    have a3:([25,33].all fun u=> !Tryz.prog.wantsStandIn u)=true:=by kernel_rfl
    exact(show Tryz.prog.wantsStandIn t=false by simpa using List.all_eq_true.1 a3 t hm)⟩)
  (by kernel_rfl)
end Go.Proofs.YtolcgikajjkjgaaGreatDoor
end
