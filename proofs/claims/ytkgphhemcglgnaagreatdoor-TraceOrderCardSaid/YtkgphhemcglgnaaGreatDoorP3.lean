/- Proved in the last of these texts: for every input the law returns true and its arguments read afterwards as they read before. This text: a part of the proof. -/
import Derived.Test.YtkgphhemcglgnaaGreatDoorP2
import Derived.ChangeArms
import Derived.RangeFuncRecord
set_option linter.unusedVariables false
set_option linter.unusedSimpArgs false
set_option linter.unusedSectionVars false
set_option linter.defProp false
namespace HY
open Go Go.RowKit
def optJ{α:Type}(f:α→Option (List Nat)):List α→Option (List Nat)
 | []=>some []
 |x::xs=>match f x with
  |some l=>match optJ f xs with
   |some r=>some (l++r)
   |none=>none
  |none=>none
theorem Ig{α:Type}{f:α→Option (List Nat)}:∀ {xs:List α} {l:List Nat},optJ f xs=some l→∀x∈xs,∃r,f x=some r∧∀i∈r,i∈l
 | [],_,_,x,hx=>by cases hx
 |y::ys,l,h,x,hx=>by
  simp only[optJ] at h;split at h
  ·rename_i a ha;split at h
   ·rename_i b hb;cases h;rcases List.mem_cons.1 hx with rfl | hx
    ·simp_all
    ·obtain⟨r,h1,h2⟩:=Ig hb x hx
     simp_all
   ·cases h
  ·cases h
theorem Cd{α:Type}{f:α→Option (List Nat)}:∀ {xs:List α} {l:List Nat},optJ f xs=some l→∀i∈l,∃x∈xs,∃r,f x=some r∧i∈r
 | [],l,h,i,hi=>by cases h;cases hi
 |y::ys,l,h,i,hi=>by
  simp only[optJ] at h;split at h
  ·rename_i a ha;split at h
   ·rename_i b hb;cases h;rcases cqu.1 hi with hi | hi
    ·simp_all
    ·obtain⟨x,h1,h2⟩:=Cd hb i hi
     grind
   ·cases h
  ·cases h
def Y5:Nat→AV→Option (List Nat)
 |0,_=>none
 |k+1,x=>match x with
  | .ptr id _ _=>some [id]
  | .bs id _ _ _ _=>some [id]
  | .ow id _ _ _=>some [id]
  | .oe id _ _ _ _=>some [id]
  | .yld id=>some [id]
  | .mp id=>some [id]
  | .fn _ cs=>optJ (Y5 k) cs
  | .agg cs=>optJ (Y5 k) cs
  | .tup cs=>optJ (Y5 k) cs
  |_=>some []
def Wy:Box→Option (List Nat)
 | .cells _ cs=>optJ (Y5 12) cs
 | .map es=>optJ (fun e=>Y5 12 e.2) es
 | .mapI _=>some []
 |_=>none
structure OT (E E':Env) (id:Nat):Prop where
 al:∀ver,E.al id ver→E'.al id ver
 loc:∀ver l,E'.loc id ver=some l→E.loc id ver=some l
 lp:∀l,E.lp id=some l→E'.lp id=some l
theorem RV.agree{H:HV}{E E':Env}:∀(k:Nat) {x:AV} {v:Value} {l:List Nat},Y5 k x=some l→(∀id∈l,OT E E' id)→RV H E x v→RV H E' x v
 |0,_,_,_,h,_,_=>by cases h
 |k+1,x,v,l,h,he,hx=>by
  have ih:=fun(x:AV) (v:Value) (l:List Nat)=>RV.agree (H:=H) (E:=E) (E':=E') k (x:=x) (v:=v) (l:=l)
  have a4:∀(cs:List AV) (vs:Array Value),optJ (Y5 k) cs=some l→(∀(j:Nat) (c:AV) (v:Value),cs[j]? =some c→vs[j]? =some v→RV H E c v)→∀(j:Nat) (c:AV) (v:Value),cs[j]? =some c→vs[j]? =some v→RV H E' c v:=fun cs vs hj hc j c v h1 h2=>by
   obtain⟨r,hr,hs⟩:=Ig hj c (cqr h1)
   grind
  cases hx with
  |imm _ _ hi=>exact .imm _ _ hi
  |ptr id ver off a h1 h2=>
   simp only[Y5,cqf] at h;subst h;have e:=he id (by simp)
   exact .ptr id ver off a (e.al _ h1) fun l hl=>h2 l (e.loc _ _ hl)
  |bs id ver sz off len a cap h1 h2 h3 h4=>
   simp only[Y5,cqf] at h;subst h;have e:=he id (by simp)
   exact .bs id ver sz off len a cap (e.al _ h1) h2 h3 fun l hl=>h4 l (e.loc _ _ hl)
  |ow id ver sz len a cap h1 h2 h3 h5 h4=>
   simp only[Y5,cqf] at h;subst h;have e:=he id (by simp)
   exact .ow id ver sz len a cap (e.al _ h1) h2 h3 h5 fun l hl=>h4 l (e.loc _ _ hl)
  |oe id ver sz i off a h1 h2=>
   simp only[Y5,cqf] at h;subst h;have e:=he id (by simp)
   exact .oe id ver sz i off a (e.al _ h1) fun l hl=>h2 l (e.loc _ _ hl)
  |yld id l' h1=>
   simp only[Y5,cqf] at h;subst h;exact .yld id l' ((he id (by simp)).lp _ h1)
  |mp id l' h1=>
   simp only[Y5,cqf] at h;subst h;exact .mp id l' ((he id (by simp)).lp _ h1)
  |fn f cs vs hl hc=>
   simp only[Y5] at h;exact .fn f cs vs hl (a4 cs vs h hc)
  |agg cs vs hl h1 hc=>
   simp only[Y5] at h;exact .agg cs vs hl h1 (a4 cs vs h hc)
  |tup cs vs hl hc=>
   simp only[Y5] at h;exact .tup cs vs hl (a4 cs vs h hc)
theorem Yq.agree{H:HV}{E E':Env}{b:Box}{lc:Lc}{w:World}{l:List Nat}(h:Wy b=some l)(he:∀id∈l,OT E E' id)(hb:Yq H E b lc w):Yq H E' b lc w:=by
 cases b with
 |cells ver cs=>
  obtain⟨C,e,h1,h2,h3,h4⟩:=hb;refine⟨C,e,h1,h2,h3,fun j c hj=> ?_⟩
  obtain⟨v,a,b,d⟩:=h4 j c hj;obtain⟨r,hr,hs⟩:=Ig h c (cqr hj);exact⟨v,a,b,d.agree 12 hr fun id a3=>he id (hs id a3)⟩
 |map es=>
  obtain⟨A,c,h1,h2,h3⟩:=hb;refine⟨A,c,h1,h2,fun j k x e hj hA=> ?_⟩
  obtain⟨a,d⟩:=h3 j k x e hj hA;obtain⟨r,hr,hs⟩:=Ig h (k,x) (cqr hj);exact⟨a,d.agree 12 hr fun id a3=>he id (hs id a3)⟩
 |mapI es=>
  obtain⟨A,c,h1,h2,h3⟩:=hb;refine⟨A,c,h1,h2,fun j k x e hj hA=> ?_⟩
  obtain⟨a,d⟩:=h3 j k x e hj hA;obtain⟨p,_,hp⟩:=List.mem_map.1 (cqr hj);cases hp;exact⟨a,d.agree 12 (l:=[]) rfl fun id a3=>by cases a3⟩
 |_=>cases h
def JX{α:Type}(f:α→α→Bool):List α→List α→Bool
 | [],[]=>true
 |x::xs,y::ys=>f x y&&JX f xs ys
 |_,_=>false
theorem KZ{α:Type}{f:α→α→Bool}(hf:∀x y,f x y=true→x=y):∀ {xs ys:List α},JX f xs ys=true→xs=ys
 | [],[],_=>rfl
 |x::xs,y::ys,h=>by
  simp only[JX,cqb] at h;rw[hf x y h.1,KZ hf h.2]
 | [],_::_,h=>by cases h
 |_::_,[],h=>by cases h
def AI(a b:UInt8):Bool:=Nat.beq a.toNat b.toNat
theorem Rv(a b:UInt8)(h:AI a b=true):a=b:=UInt8.toNat_inj.1 (cqa h)
def avEq:Nat→AV→AV→Bool
 |0,_,_=>false
 |k+1,x,y=>match x,y with
  | .undef,.undef=>true
  | .bool a,.bool b=>match a,b with | true,true=>true | false,false=>true | _,_=>false
  | .int s n,.int t m=>decide (s=t)&&decide (n=m)
  | .str a,.str b=>JX AI a b
  | .nil,.nil=>true
  | .emp,.emp=>true
  | .sl s xs,.sl t ys=>Nat.beq s t&&JX (avEq k) xs ys
  | .ip s xs i o,.ip t ys j p=>Nat.beq s t&& (Nat.beq i j&& (Nat.beq o p&&JX (avEq k) xs ys))
  | .ptr a b c,.ptr d e f=>Nat.beq a d&& (Nat.beq b e&&Nat.beq c f)
  | .bs a b c d e,.bs a' b' c' d' e'=>Nat.beq a a'&& (Nat.beq b b'&& (Nat.beq c c'&& (Nat.beq d d'&&Nat.beq e e')))
  | .ow a b c d,.ow a' b' c' d'=>Nat.beq a a'&& (Nat.beq b b'&& (Nat.beq c c'&&Nat.beq d d'))
  | .oe a b c d e,.oe a' b' c' d' e'=>Nat.beq a a'&& (Nat.beq b b'&& (Nat.beq c c'&& (Nat.beq d d'&&Nat.beq e e')))
  | .nilp,.nilp=>true
  | .nilfn,.nilfn=>true
  | .fn f cs,.fn g ds=>Nat.beq f g&&JX (avEq k) cs ds
  | .yld a,.yld b=>Nat.beq a b
  | .mp a,.mp b=>Nat.beq a b
  | .val v,.val u=>AY v&&AY u
  | .agg cs,.agg ds=>JX (avEq k) cs ds
  | .tup cs,.tup ds=>JX (avEq k) cs ds
  |_,_=>false
theorem Q75{v:Value}(h:AY v=true):v= .map none:=by
 grind [AY]
theorem Hz:∀(k:Nat) (x y:AV),avEq k x y=true→x=y
 |0,_,_,h=>by cases h
 |k+1,x,y,h=>by
  have ih:=Hz k;unfold avEq at h;split at h<;>first | rfl | cases h | skip
  ·grind
  ·simp_all
  ·rw[KZ Rv h]
  ·simp only[cqb] at h
   grind [cqa,KZ]
  ·simp only[cqb] at h
   grind [cqa,KZ]
  ·simp_all
  ·simp_all
  ·simp_all
  ·simp_all
  ·simp only[cqb] at h
   grind [cqa,KZ]
  ·simp_all
  ·simp_all
  ·simp only[cqb] at h
   grind [Q75]
  ·rw[KZ ih h]
  ·rw[KZ ih h]
def boxEq:Box→Box→Bool
 | .cells v cs,.cells u ds=>Nat.beq v u&&JX (avEq 12) cs ds
 | .map es,.map fs=>JX (fun x y=>JX AI x.1 y.1&&avEq 12 x.2 y.2) es fs
 | .mapI es,.mapI fs=>JX (fun x y=>JX AI x.1 y.1&&avEq 12 (.int .i64 x.2) (.int .i64 y.2)) es fs
 |_,_=>false
theorem Q8m{a b:Box}(h:boxEq a b=true):a=b:=by
 unfold boxEq at h;split at h
 ·simp only[cqb] at h
  grind [cqa,KZ,Hz]
 ·rw[KZ (fun x y a3=> ?_) h]
  rw[cqb] at a3
  grind [Prod.ext,KZ,Rv,Hz]
 ·rw[KZ (fun x y a3=> ?_) h]
  rw[cqb] at a3
  grind [Prod.ext,KZ,Rv,Hz]
 ·cases h
def memT(t:Tr Unit)(id:Nat):Bool:=match t.get (path id) with | some _=>true | none=>false
theorem memT_pt{t:Tr Unit}{id k:Nat}(h:memT (pt t id ()) k=true):k=id∨memT t k=true:=by
 unfold memT pt at h;rw[Tr.get_set] at h;by_cases e:path id=path k
 ·simp_all [A2]
 ·rw[if_neg e] at h;exact .inr h
theorem Ek{k:Nat}:memT .nil k=false:=by
 unfold memT;cases path k<;>rfl
def CE(hp:Hp):Nat→List Nat→Tr Unit→List Nat→Option (Tr Unit×List Nat)
 |0,_,_,_=>none
 |k+1,todo,seen,acc=>match todo with
  | []=>some (seen,acc)
  |id::r=>bif memT seen id then CE hp k r seen acc else match hp id with
   |some b=>match Wy b with
    |some l=>CE hp k (l++r) (pt seen id ()) (id::acc)
    |none=>none
   |none=>none
theorem CF{hp:Hp}{S0:Nat→Prop}:∀(k:Nat) (a7:List Nat) (a5:Tr Unit) (a6:List Nat) (a4:Tr Unit) (a3:List Nat),CE hp k a7 a5 a6=some (a4,a3)→
  (∀id,memT a5 id=true→id∈a6∨S0 id)→(∀id∈a6,∃b l,hp id=some b∧Wy b=some l∧∀j∈l,j∈a6∨S0 j∨j∈a7)→
  (∀id,memT a4 id=true→id∈a3∨S0 id)∧(∀id∈a3,∃b l,hp id=some b∧Wy b=some l∧∀j∈l,j∈a3∨S0 j)∧(∀j∈a7,j∈a3∨S0 j)∧∀id∈a6,id∈a3
 |0,_,_,_,_,_,h,_,_=>by cases h
 |k+1,[],a5,a6,a4,a3,h,h1,h2=>by
  simp only[CE,cqf,Prod.mk.injEq] at h
  simp_all
 |k+1,id::r,a5,a6,a4,a3,h,h1,h2=>by
  simp only[CE] at h;cases hm:memT a5 id with
  |true=>
   rw[hm,cond_true] at h;obtain⟨e1,e2,e3,e4⟩:=CF k r a5 a6 a4 a3 h h1 fun i hi=>by
    grind
   grind
  |false=>
   rw[hm,cond_false] at h;split at h
   ·rename_i b hb;split at h
    ·rename_i l hl;obtain⟨e1,e2,e3,e4⟩:=CF k (l++r) _ _ a4 a3 h (fun i hi=>by
      rcases memT_pt hi with rfl | hi
      ·simp_all
      ·rcases h1 i hi with h | h
       ·simp_all
       ·exact .inr h) fun i hi=>by
      grind
     simp_all
    ·cases h
   ·cases h
theorem RW{hp hp':Hp}(he:Ext hp hp')(hb:∀id b l,hp id=some b→Wy b=some l→∀j∈l,∃b',hp j=some b'):∀(k:Nat) (a4:List Nat) (a3:Tr Unit) (a5:List Nat),(∀j∈a4,∃b,hp j=some b)→CE hp' k a4 a3 a5=CE hp k a4 a3 a5
 |0,_,_,_,_=>rfl
 |k+1,[],_,_,_=>rfl
 |k+1,id::r,a3,a5,ht=>by
  obtain⟨b,a6⟩:=ht id (by simp)
  simp only[CE,he _ _ a6,a6];rw[RW he hb k r a3 a5 fun j hj=>ht j (by simp[hj])]
  cases hl:Wy b with
  |none=>rfl
  |some l=>
   simp only;rw[RW he hb k (l++r) _ _ fun j hj=> ?_]
   grind
def Jo(hp:Hp):List Nat→Tr Box
 | []=>.nil
 |id::r=>match hp id with
  |some b=>pt (Jo hp r) id b
  |none=>Jo hp r
theorem Q3g{hp:Hp}:∀(l:List Nat) (k:Nat),lkb (Jo hp l) k=if k∈l then hp k else none
 | [],k=>by rw[show Jo hp []= .nil from rfl,ZD];simp
 |id::r,k=>by
  unfold Jo;have ih:=Q3g (hp:=hp) r;cases hid:hp id with
  |none=>
   grind
  |some b=>
   simp only;rw[QV]
   grind [id,Qn,Qz]
def Xt(t:Tr Box):List (Nat×Box)→Tr Box
 | []=>t
 |x::r=>Xt (pt t x.1 x.2) r
def pick(hp:Hp):List Nat→List (Nat×Box)
 | []=>[]
 |id::r=>match hp id with
  |some b=>(id,b)::pick hp r
  |none=>pick hp r
theorem VW{hp:Hp}:∀(l:List Nat) (t:Tr Box) (k:Nat),lkb (Xt t (pick hp l)) k=if k∈l∧(hp k).isSome=true then hp k else lkb t k
 | [],t,k=>by simp[pick,Xt]
 |id::r,t,k=>by
  unfold pick;cases hid:hp id with
  |none=>
   simp only;rw[VW r t k]
   grind
  |some b=>
   simp only[Xt];rw[VW r _ k,QV]
   grind [id,Qn,Qz]
def HN(hp hp':Hp)(id:Nat):Bool:=match hp id,hp' id with
 |some a,some b=>boxEq a b
 |_,_=>false
def WL(ch:Qq)(hp:Hp)(nx f:Nat)(args:List AV):Option (AV×List (Nat×Box)×Nat×Bool):=
 match optJ (Y5 12) args with
 |some ids=>match CE hp 100000 ids .nil [] with
  |some (seen,S)=>match ch f args (Jo hp S) nx with
   |some (r,hp',nx')=>match Y5 12 r with
    |some rid=>match CE (lkb hp') 100000 (S++rid) .nil [] with
     |some (_,N)=>match N.all (fun id=>Nat.ble nx id || memT seen id)&&Nat.ble nx nx' with
      |true=>some (r,pick (lkb hp') N,nx',!S.all (HN hp (lkb hp')))
      |false=>none
     |none=>none
    |none=>none
   |none=>none
  |none=>none
 |none=>none
section
variable {P : Program} {m : Nat → Lc} {H : HV} {B : Nat → Prop} {H0 : HV} {gl : Nat → AV} {rest : List (AV × Value)} {st : St} {a : Act} {w : World} {ch : Qq}
theorem Tf{hp:Hp}{E:Env}(hE:E=Q6 hp m):∀(k:Nat) {x:AV} {v:Value} {l:List Nat},Y5 k x=some l→RV H E x v→∀j∈l,∃b,hp j=some b
 |0,_,_,_,h,_,_,_=>by cases h
 |k+1,x,v,l,h,hx,j,hj=>by
  subst hE;have ih:=fun(x:AV) (v:Value) (l:List Nat)=>Tf (hp:=hp) (E:=Q6 hp m) rfl k (x:=x) (v:=v) (l:=l)
  have aa:∀id l',(Q6 hp m).lp id=some l'→∃b,hp id=some b:=fun id l' h=>by
   cases hid:hp id with
   |some b=>simp_all
   |none=>simp_all [Q6]
  cases x with
  |ptr id ver off=>simp only[Y5,cqf] at h;subst h;simp at hj;subst hj;exact Ki (HM hx)
  |bs id ver sz off len=>simp only[Y5,cqf] at h;subst h;simp at hj;subst hj;exact Ki (Eb hx)
  |ow id ver sz len=>simp only[Y5,cqf] at h;subst h;simp at hj;subst hj;exact Ki (ow_al hx)
  |oe id ver sz i off=>simp only[Y5,cqf] at h;subst h;simp at hj;subst hj;exact Ki (oe_al hx)
  |yld id=>simp only[Y5,cqf] at h;subst h;simp at hj;subst hj;obtain⟨l',_,h⟩:=hx.yld_inv;simp_all
  |mp id=>simp only[Y5,cqf] at h;subst h;simp at hj;subst hj;obtain⟨l',_,h⟩:=hx.mp_inv;simp_all
  |fn f cs=>
   simp only[Y5] at h;obtain⟨c,hc,r,hr,a4⟩:=Cd h j hj;obtain⟨vs,rfl,hl,a3⟩:=hx.fn_inv;obtain⟨i,hi⟩:=List.getElem?_of_mem hc;exact ih c _ r hr (a3 i c _ hi (cqh (by grind))) j a4
  |agg cs=>
   simp only[Y5] at h;obtain⟨c,hc,r,hr,a4⟩:=Cd h j hj;obtain⟨vs,rfl,hl,_,a3⟩:=hx.agg_inv;obtain⟨i,hi⟩:=List.getElem?_of_mem hc;exact ih c _ r hr (a3 i c _ hi (cqh (by grind))) j a4
  |tup cs=>
   simp only[Y5] at h;obtain⟨c,hc,r,hr,a4⟩:=Cd h j hj;obtain⟨vs,rfl,hl,a3⟩:=hx.tup_inv;obtain⟨i,hi⟩:=List.getElem?_of_mem hc;exact ih c _ r hr (a3 i c _ hi (cqh (by grind))) j a4
  |_=>simp_all [Y5,cqf]
theorem box_dom{hp:Hp}{E:Env}(hE:E=Q6 hp m){b:Box}{lc:Lc}{l:List Nat}(h:Wy b=some l)(hb:Yq H E b lc w):∀j∈l,∃b',hp j=some b':=fun j hj=>by
 cases b with
 |cells ver cs=>
  obtain⟨C,e,h1,h2,h3,h4⟩:=hb
  obtain⟨c,hc,r,hr,hjr⟩:=Cd h j hj
  grind [List.getElem?_of_mem,Tf]
 |map es=>
  obtain⟨A,c,h1,h2,h3⟩:=hb
  obtain⟨⟨k,x⟩,hc,r,hr,hjr⟩:=Cd h j hj
  obtain⟨i,hi⟩:=List.getElem?_of_mem hc
  have hiA:i<A.size:=by grind
  obtain⟨_,d⟩:=h3 i k x (A[i]'hiA) hi (cqh hiA)
  grind [Tf]
 |mapI es=>cases h;cases hj
 |_=>cases h
theorem FA(h:RelS m H B H0 gl rest st a.tmps w){hp':Hp}(he:Ext (lkb st.hp) hp'){nx f:Nat}{args:List AV}(a4:∀x∈args,∃v,RV H (st.env m) x v):WL ch hp' nx f args=WL ch (lkb st.hp) nx f args:=by
 unfold WL;cases hids:optJ (Y5 12) args with
 |none=>rfl
 |some ids=>
  simp only;have hd:∀j∈ids,∃b,lkb st.hp j=some b:=fun j hj=>by
   obtain⟨x,hx,r,hr,a8⟩:=Cd hids j hj;obtain⟨v,hv⟩:=a4 x hx;exact Tf rfl 12 hr hv j a8
  have aa:=RW he (fun id b l a3 hl j hj=>box_dom (w:=w) rfl hl (h.heap.box id b a3) j hj) 100000 ids .nil [] hd
  rw[aa];cases hS:CE (lkb st.hp) 100000 ids .nil [] with
  |none=>rfl
  |some p=>
   obtain⟨ad,S⟩:=p;simp only;obtain⟨_,e2,_,_⟩:=CF (S0:=fun _=>False) _ _ _ _ _ _ hS (fun id hm=>by simp_all [Ek]) (fun id a3=>by cases a3)
   have a6:Jo hp' S=Jo (lkb st.hp) S:=by
    have:∀l:List Nat,(∀id∈l,id∈S)→Jo hp' l=Jo (lkb st.hp) l:=fun l=>by
     induction l with
     |nil=>intro _;rfl
     |cons x l ih=>
      intro hl;obtain⟨b,_,hb,_⟩:=e2 x (hl x (by simp))
      simp only[Jo,he _ _ hb,hb]
      simp_all
    simp_all
   rw[a6];cases hc:ch f args (Jo (lkb st.hp) S) nx with
   |none=>rfl
   |some q=>
    obtain⟨r,hq,nx'⟩:=q;simp only;have a5:S.all (HN hp' (lkb hq))=S.all (HN (lkb st.hp) (lkb hq)):=by
     rw[Bool.eq_iff_iff,cqt,cqt];refine forall_congr' fun id=>forall_congr' fun a3=> ?_
     obtain⟨b,_,hb,_⟩:=e2 id a3;simp only[HN,he _ _ hb,hb]
    rw[a5]
end
section
variable {P : Program} {m : Nat → Lc} {H : HV} {B : Nat → Prop} {H0 : HV} {gl : Nat → AV} {rest : List (AV × Value)} {st : St} {a : Act} {w : World} {ch : Qq}
def IS(hp:Hp)(m:Nat→Lc)(id:Nat):AV×Value:=match hp id with
  |some (.cells ver _)=>(.ptr id ver 0,.pointer (some ⟨(m id).g,(m id).base+0,none⟩))
  |some (.map _)=>(.mp id,.map (some (m id).g))
  |some (.mapI _)=>(.mp id,.map (some (m id).g))
  |_=>(.nilp,.pointer none)
theorem pin_ok{hp:Hp}(id:Nat):RV H (Q6 hp m) (IS hp m id).1 (IS hp m id).2:=by
  unfold IS;split
  · rename_i ver cs a3
    refine .ptr id ver 0 _ ⟨_,a3,fun v hv=>by cases hv;omega⟩ fun l hl=> ?_
    simp_all [YN]
  · rename_i es a3
    exact .mp id _ (by simp[Q6,a3])
  · rename_i es a3
    exact .mp id _ (by simp[Q6,a3])
  · exact .imm _ _ .nilp
theorem FB{hp:Hp}{nx f:Nat}{args:List AV}{r:AV}{nb:List (Nat×Box)}{nx':Nat}{a6:Bool}(h:WL ch hp nx f args=some (r,nb,nx',a6)):
    ∃ids a4 S hp' a5 a3 N,optJ (Y5 12) args=some ids∧CE hp 100000 ids .nil []=some (a4,S)∧ch f args (Jo hp S) nx=some (r,hp',nx')∧Y5 12 r=some a5∧
      CE (lkb hp') 100000 (S++a5) .nil []=some (a3,N)∧(∀id∈N,nx≤id∨memT a4 id=true)∧nx≤nx'∧nb=pick (lkb hp') N∧a6= !S.all (HN hp (lkb hp')):=by
  unfold WL at h;split at h
  · rename_i ids a7
    split at h
    · rename_i a4 S hS
      split at h
      · rename_i r' hp' ae hc
        split at h
        · rename_i a5 a8
          split at h
          · rename_i a3 N hN
            split at h
            · rename_i hb
              cases h;rw[cqb,cqt] at hb;refine⟨ids,a4,S,hp',a5,a3,N,a7,hS,hc,a8,hN,fun id ad=> ?_,cqe hb.2,rfl,rfl⟩
              simp_all
            · cases h
          · cases h
        · cases h
      · cases h
    · cases h
  · cases h
theorem Bw{b:Box}{l:List Nat}(h:Wy b=some l):b.elder=true:=by cases b<;>first | rfl | cases h
theorem FC{hp:Hp}{nx f:Nat}{args:List AV}{r:AV}{nb:List (Nat×Box)}{nx':Nat}{a4:Bool}(h:WL ch hp nx f args=some (r,nb,nx',a4)):
    ∃(hp':Hp) (N:List Nat),nb=pick hp' N∧nx≤nx'∧(∀id∈N,nx≤id∨∃b,hp id=some b∧(a4=false→hp' id=some b)):=by
  obtain⟨ids,aa,S,hp',ae,a7,N,a8,hS,hc,a9,hN,a5,a6,rfl,rfl⟩:=FB h;obtain⟨s1,s2,_,_⟩:=CF (S0:=fun _=>False) _ _ _ _ _ _ hS (fun id hm=>by simp_all [Ek]) (fun id a3=>by cases a3)
  refine⟨_,N,rfl,a6,fun id a3=>(a5 id a3).imp (fun h=>h) fun hm=> ?_⟩
  grind [id,HN,lkb,cqt,Q8m]
theorem Q8x (hch : ch.Ok P gl) (h : RelS m H B H0 gl rest st a.tmps w) {f : Nat} {args : List AV} {vs : Array Value} {r : AV} {nb : List (Nat × Box)} {nx' : Nat} {chg : Bool} (hl : args.length = vs.size)
    (hr : ∀ (j : Nat) (x : AV) (v : Value), args[j]? = some x → vs[j]? = some v → RV H (st.env m) x v) (hk : WL ch (lkb st.hp) st.nx f args = some (r, nb, nx', chg)) :
    Ans P f vs w fun e w' => ∃ v m' H', e = .returned v ∧ Qa B w w' ∧ RelS m' H' B H0 gl rest ⟨st.n, st.sl, Xt st.hp nb, nx'⟩ a.tmps w' ∧ RV H' (Q6 (lkb (Xt st.hp nb)) m') r v := by
  classical
  obtain ⟨ids, seen, S, hp', rid, seen', N, hids, hS, hc, hrid, hN, hNlo, hnx, rfl, _⟩ := FB hk
  obtain ⟨s1, s2, s3, _⟩ := CF (S0 := fun _ => False) _ _ _ _ _ _ hS (fun id hm => by simp_all [Ek]) (fun id hid => by cases hid)
  have s1 : ∀ id, memT seen id = true → id ∈ S := fun id hm => (s1 id hm).elim (fun h => h) fun h => h.elim
  have s3 : ∀ j ∈ ids, j ∈ S := fun j hj => (s3 j hj).elim (fun h => h) fun h => h.elim
  have s2 : ∀ id ∈ S, ∃ b l, lkb st.hp id = some b ∧ Wy b = some l ∧ ∀ j ∈ l, j ∈ S := fun id hid => by
    simp_all
  obtain ⟨_, n2, n3, _⟩ := CF (S0 := fun _ => False) _ _ _ _ _ _ hN (fun id hm => by simp_all [Ek]) (fun id hid => by cases hid)
  have n3 : ∀ j ∈ S ++ rid, j ∈ N := fun j hj => (n3 j hj).elim (fun h => h) fun h => h.elim
  have hSN : ∀ id ∈ S, id ∈ N := fun id hid => n3 id (List.mem_append_left _ hid)
  have hNdom : ∀ id ∈ N, ∃ b l, lkb hp' id = some b ∧ Wy b = some l ∧ ∀ j ∈ l, j ∈ N := fun id hid => by
    simp_all
  have hNS : ∀ id ∈ N, st.nx ≤ id ∨ id ∈ S := fun id hid => (hNlo id hid).imp (fun h => h) (s1 id)
  have hpS : ∀ k, lkb (Jo (lkb st.hp) S) k = if k ∈ S then lkb st.hp k else none := Q3g S
  let B' : Nat → Prop := fun k => k < w.heap.size ∧ ∀ id ∈ S, (m id).g ≠ k
  have hreal : ∀ id ∈ S, ∀ b, lkb st.hp id = some b → Real b (m id) := fun id hid b hb => by
    grind [id, Box.elder_real, Bw]
  have hBB : ∀ k, B k → B' k := fun k hk => ⟨h.heap.low k hk, fun id hid e => by
    obtain ⟨b, l, hb, _⟩ := s2 id hid
    exact (h.heap.sepR id b hb (hreal id hid b hb)).1 (e ▸ hk)⟩
  have hE0 : ∀ id ∈ S, OT (st.env m) (Q6 (lkb (Jo (lkb st.hp) S)) m) id := fun id hid => by
    have e : lkb (Jo (lkb st.hp) S) id = lkb st.hp id := by rw [hpS, if_pos hid]
    refine ⟨fun ver ⟨b, hb, hv⟩ => ⟨b, by grind, hv⟩, fun ver l hl => ?_, fun l hl => ?_⟩
    · simp only [Q6, e] at hl ⊢; exact hl
    grind [Q6]
  have hargs : ∀ (j : Nat) (x : AV) (v : Value), args[j]? = some x → vs[j]? = some v → RV H (Q6 (lkb (Jo (lkb st.hp) S)) m) x v := fun j x v hx hv => by
    obtain ⟨q, hq, hs⟩ := Ig hids x (cqr hx)
    exact (hr j x v hx hv).agree 12 hq fun id hid => hE0 id (s3 id (hs id hid))
  have h0 : RelH m H B' H gl (lkb (Jo (lkb st.hp) S)) st.nx w :=
    { sat := h.heap.sat, old := fun _ _ _ => rfl, low := fun _ hk => hk.1,
      fresh := fun id hid => by rw [hpS, h.heap.fresh id hid]; split <;> rfl,
      box := fun id b hb => by
        rw [hpS] at hb
        split at hb
        · rename_i hid
          obtain ⟨b', l, hb', hl', hcl⟩ := s2 id hid
          rw [hb] at hb'; cases hb'
          exact (h.heap.box id b hb).agree hl' fun j hj => hE0 j (hcl j hj)
        · cases hb
      sepR := fun id b hb hre => by
        rw [hpS] at hb
        split at hb
        · rename_i hid
          obtain ⟨q1, q2, q3⟩ := h.heap.sepR id b hb hre
          exact ⟨fun hk => hk.2 id hid rfl, q2, q3⟩
        · cases hb
      injR := fun id id' b b' hb hb' h1 h2 e => by
        rw [hpS] at hb hb'
        split at hb
        · split at hb'
          · exact h.heap.injR id id' b b' hb hb' h1 h2 e
          · cases hb'
        · cases hb
      gv := fun g sz cs hg => let ⟨q1, q2⟩ := h.heap.gv g sz cs hg; ⟨hBB g q1, q2⟩
      gl := h.heap.gl
      ty := fun id ver cs hb => by
        rw [hpS] at hb
        split at hb
        · exact h.heap.ty id ver cs hb
        · cases hb }
  refine (hch _ _ _ _ _ _ _ hc m H B' H (S.map (IS (lkb st.hp) m)) w vs h0 hl hargs fun p hp => ?_).mono fun e w1 hpost => ?_
  · obtain ⟨id, hid, rfl⟩ := List.mem_map.1 hp
    have e : IS (lkb st.hp) m id = IS (lkb (Jo (lkb st.hp) S)) m id := by
      unfold IS; rw [hpS, if_pos hid]
    rw [e]; exact pin_ok id
  · obtain ⟨v, m1, H1, rfl, hbl, hH, hrv, hrest⟩ := hpost
    let m2 : Nat → Lc := fun id => if id ∈ N then m1 id else m id
    have hm2N : ∀ id ∈ N, m2 id = m1 id := fun id hid => if_pos hid
    have hm2O : ∀ id, id ∉ N → m2 id = m id := fun id hid => if_neg hid
    have hpN : ∀ k, lkb (Xt st.hp (pick (lkb hp') N)) k = if k ∈ N then lkb hp' k else lkb st.hp k := fun k => by
      rw [VW]
      by_cases hk : k ∈ N
      · obtain ⟨b, l, hb, _⟩ := hNdom k hk
        simp [hk, hb]
      · simp [hk]
    have hE1 : ∀ id ∈ N, OT (Q6 (lkb hp') m1) (Q6 (lkb (Xt st.hp (pick (lkb hp') N))) m2) id := fun id hid => by
      have e : lkb (Xt st.hp (pick (lkb hp') N)) id = lkb hp' id := by rw [hpN, if_pos hid]
      have em := hm2N id hid
      exact ⟨fun ver ⟨b, hb, hv⟩ => ⟨b, by rw [e]; exact hb, hv⟩, fun ver l hl => by simp only [Q6, e, em] at hl ⊢; exact hl, fun l hl => by simp only [Q6, e, em] at hl ⊢; exact hl⟩
    have hE2 : Env.le (st.env m) (Q6 (lkb (Xt st.hp (pick (lkb hp') N))) m2) := by
      have atS : ∀ id ∈ S, (∀ ver, (st.env m).al id ver → (Q6 (lkb hp') m1).al id ver) ∧ (∀ ver l, (st.env m).al id ver → (Q6 (lkb hp') m1).loc id ver = some l → (st.env m).loc id ver = some l) ∧ (∀ l, (st.env m).lp id = some l → (Q6 (lkb hp') m1).lp id = some l) := fun id hid => by
        obtain ⟨b, l, hb, hl', _⟩ := s2 id hid
        obtain ⟨b1, l1, hb1, hl1, _⟩ := hNdom id (hSN id hid)
        have hpr := hrest _ (List.mem_map.2 ⟨id, hid, rfl⟩)
        unfold IS at hpr
        rw [hb] at hpr
        cases b with
        | cells ver cs =>
          simp only at hpr
          obtain ⟨ad, e1, hal, e2⟩ := hpr.ptr_inv
          cases e1
          obtain ⟨b2, hb2, hv2⟩ := hal
          rw [hb1] at hb2; cases hb2
          have hver : ∀ v0, (st.env m).al id v0 → v0 ≤ ver := fun v0 ⟨b, hb', hv⟩ => by rw [hb] at hb'; cases hb'; exact hv ver rfl
          refine ⟨fun v0 h0 => ⟨b1, hb1, fun v hv => Nat.le_trans (hver v0 h0) (hv2 v hv)⟩, fun v0 l h0 hl => ?_, fun l hl => by simp [Q6, hb] at hl⟩
          have h1 := hver v0 h0
          simp only [Q6, hb1] at hl
          split at hl
          · rename_i v hv
            split at hl
            · rename_i hvv
              subst hvv
              cases hl
              have h2 := hv2 v hv
              obtain rfl : v = ver := by omega
              have e3 := e2 (m1 id) (by simp only [Q6, hb1, hv, if_true])
              simp only [Addr.mk.injEq, Nat.add_zero, and_true] at e3
              cases b1 with
              | cells v' cs1 =>
                obtain ⟨C, te, q1, q2, _, _⟩ := h.heap.box id _ hb
                obtain ⟨C1, te1, p1, p2, _, _⟩ := hH.box id _ hb1
                obtain ⟨C2, fr2, p3, p4⟩ := hbl.rows _ _ _ _ q1
                rw [← e3.1] at p1
                rw [p1] at p3
                cases p3
                have hz : (m1 id).size = (m id).size := by omega
                have : m1 id = m id := by
                  cases hm1 : m1 id with | mk g1 b1 z1 =>
                  cases hm : m id with | mk g0 b0 z0 =>
                  rw [hm1, hm] at e3 hz
                  simp at e3 hz
                  rw [e3.1, e3.2, hz]
                rw [this, YN hb]
              | map es => cases hv
              | mapI es => cases hv
              | _ => cases hl1
            · cases hl
          · cases hl
        | map es =>
          simp only at hpr
          obtain ⟨l0, e1, e2⟩ := hpr.mp_inv
          cases e1
          refine ⟨fun v0 _ => ⟨b1, hb1, fun v hv => ?_⟩, fun v0 l h0 hl => ?_, fun l hl => ?_⟩
          · simp only [Q6, hb1] at e2
            cases b1 <;> first | (cases e2; done) | (cases hv; done)
          · simp only [Q6, hb1] at e2 hl
            cases b1 <;> first | (cases e2; done) | (cases hl; done)
          · simp only [Q6, hb, cqf] at hl
            subst hl; exact e2
        | mapI es =>
          simp only at hpr
          obtain ⟨l0, e1, e2⟩ := hpr.mp_inv
          cases e1
          refine ⟨fun v0 _ => ⟨b1, hb1, fun v hv => ?_⟩, fun v0 l h0 hl => ?_, fun l hl => ?_⟩
          · simp only [Q6, hb1] at e2
            cases b1 <;> first | (cases e2; done) | (cases hv; done)
          · simp only [Q6, hb1] at e2 hl
            cases b1 <;> first | (cases e2; done) | (cases hl; done)
          · simp only [Q6, hb, cqf] at hl
            subst hl; exact e2
        | _ => cases hl'
      have old : ∀ id b, lkb st.hp id = some b → id ∉ S → lkb (Xt st.hp (pick (lkb hp') N)) id = some b ∧ m2 id = m id := fun id b hb hs => by
        have hn : id ∉ N := fun hn => by
          rcases hNS id hn with hge | hs'
          · rw [h.heap.fresh id hge] at hb; cases hb
          · exact hs hs'
        exact ⟨by rw [hpN, if_neg hn]; exact hb, hm2O id hn⟩
      refine ⟨fun id ver hal => ?_, fun id ver l hal hl => ?_, fun id l hl => ?_⟩
      · by_cases hs : id ∈ S
        · exact (hE1 id (hSN id hs)).al ver ((atS id hs).1 ver hal)
        · obtain ⟨b, hb, hv⟩ := hal
          exact ⟨b, (old id b hb hs).1, hv⟩
      · by_cases hs : id ∈ S
        · refine (atS id hs).2.1 ver l hal ?_
          have e : lkb (Xt st.hp (pick (lkb hp') N)) id = lkb hp' id := by rw [hpN, if_pos (hSN id hs)]
          have em := hm2N id (hSN id hs)
          simp only [Q6, e, em] at hl ⊢; exact hl
        · obtain ⟨b, hb, hv⟩ := hal
          obtain ⟨e1, e2⟩ := old id b hb hs
          simp only [Q6, e1, e2] at hl
          simp only [Q6, hb]
          exact hl
      · by_cases hs : id ∈ S
        · exact (hE1 id (hSN id hs)).lp l ((atS id hs).2.2 l hl)
        · cases hb : lkb st.hp id with
          | none => simp [Q6, hb] at hl
          | some b =>
            obtain ⟨e1, e2⟩ := old id b hb hs
            simp only [Q6, hb] at hl
            simp only [Q6, e1, e2]
            exact hl
    have hle : HV.le H H1 := fun b o u hu => by
      have hlt := Jh h.heap.sat hu
      have : B' b := ⟨hlt, fun id hid e => by
        obtain ⟨bx, l, hb, _⟩ := s2 id hid
        have := (h.heap.sepR id bx hb (hreal id hid bx hb)).2.2 o
        rw [e, hu] at this; cases this⟩
      rw [hH.old b o this]; exact hu
    have hblk : ∀ id b, lkb st.hp id = some b → Real b (m id) → id ∉ S → B' (m id).g := fun id b hb hre hns => by
      refine ⟨(h.heap.sepR id b hb hre).2.1, fun id' hid' e => ?_⟩
      obtain ⟨b', l, hb', _⟩ := s2 id' hid'
      have := h.heap.injR id' id b' b hb' hb (hreal id' hid' b' hb') hre e
      subst this; exact hns hid'
    have hOS : ∀ id, id ∉ N → id ∉ S := fun id hn hs => hn (hSN id hs)
    have hheap : RelH m2 H1 B H0 gl (lkb (Xt st.hp (pick (lkb hp') N))) nx' w1 :=
      { sat := hH.sat
        old := fun b o hb => by rw [hH.old b o (hBB b hb)]; exact h.heap.old b o hb
        low := fun b hb => Nat.lt_of_lt_of_le (h.heap.low b hb) hbl.size
        fresh := fun id hid => by
          rw [hpN]
          split
          · exact hH.fresh id hid
          · exact h.heap.fresh id (Nat.le_trans hnx hid)
        box := fun id b hb => by
          rw [hpN] at hb
          split at hb
          · rename_i hn
            obtain ⟨b', l, hb', hl', hcl⟩ := hNdom id hn
            rw [hb] at hb'; cases hb'
            rw [hm2N id hn]
            exact (hH.box id b hb).agree hl' fun j hj => hE1 j (hcl j hj)
          · rename_i hn
            rw [hm2O id hn]
            exact (h.heap.box id b hb).mono' hle hE2 fun hre => hbl.block _ (hblk id b hb hre (hOS id hn))
        sepR := fun id b hb hre => by
          rw [hpN] at hb
          split at hb
          · rename_i hn
            rw [hm2N id hn] at hre ⊢
            obtain ⟨q1, q2, q3⟩ := hH.sepR id b hb hre
            exact ⟨fun hk => q1 (hBB _ hk), q2, q3⟩
          · rename_i hn
            rw [hm2O id hn] at hre ⊢
            obtain ⟨q1, q2, q3⟩ := h.heap.sepR id b hb hre
            refine ⟨q1, Nat.lt_of_lt_of_le q2 hbl.size, fun o => ?_⟩
            rw [hH.old _ o (hblk id b hb hre (hOS id hn))]; exact q3 o
        injR := fun id id' b b' hb hb' hre hre' e => by
          have cross : ∀ i j bi bj, lkb hp' i = some bi → j ∉ N → lkb st.hp j = some bj → Real bi (m1 i) → Real bj (m j) → (m1 i).g ≠ (m j).g := fun i j bi bj hbi hj hbj hri hrj e =>
            (hH.sepR i bi hbi hri).1 (e ▸ hblk j bj hbj hrj (hOS j hj))
          rw [hpN] at hb hb'
          split at hb
          · rename_i hn
            rw [hm2N id hn] at hre e
            split at hb'
            · rename_i hn'
              rw [hm2N id' hn'] at hre' e
              exact hH.injR id id' b b' hb hb' hre hre' e
            · rename_i hn'
              rw [hm2O id' hn'] at hre' e
              exact absurd e (cross id id' b b' hb hn' hb' hre hre')
          · rename_i hn
            rw [hm2O id hn] at hre e
            split at hb'
            · rename_i hn'
              rw [hm2N id' hn'] at hre' e
              exact absurd e.symm (cross id' id b' b hb' hn hb hre' hre)
            · rename_i hn'
              rw [hm2O id' hn'] at hre' e
              exact h.heap.injR id id' b b' hb hb' hre hre' e
        gv := (fun g sz cs hg => let ⟨q1, C, te, fr, q2, q3⟩ := h.heap.gv g sz cs hg; ⟨q1, C, te, fr, by rw [hbl.block g (hBB g q1)]; exact q2, q3⟩)
        gl := fun g => (h.heap.gl g).mono hle
        ty := fun id ver cs hb => by
          rw [hpN] at hb
          split at hb
          · rename_i hn
            rw [hm2N id hn]; exact hH.ty id ver cs hb
          · rename_i hn
            rw [hm2O id hn]
            exact (h.heap.ty id ver cs hb).mono (hbl.block _ (hblk id _ hb trivial (hOS id hn))) }
    refine ⟨v, m2, H1, rfl, hbl.mono hBB, ⟨hheap, h.size, fun k => (h.slot k).mono hle hE2, fun p hp => (h.rest p hp).mono hle hE2⟩, ?_⟩
    exact hrv.agree 12 hrid fun id hid => hE1 id (n3 id (List.mem_append_right _ hid))
end
def CK(gl:Nat→AV)(ch:Qq)(a3:Nat)(o:Oper)(st:St):Option (St×Bool):=
 match o.guard with
 |none=>match Z2 o.dst st.n&&Nat.ble a3 st.nx with
  |true=>match YH (st.ev gl) o.op with
   |some (f,args)=>match WL ch (lkb st.hp) st.nx f args with
    |some (r,nb,nx',chg)=>some ((⟨st.n,st.sl,Xt st.hp nb,nx'⟩:St).putO o.dst r,chg)
    |none=>none
   |none=>none
  |false=>none
 |some _=>none
def Ug(gl:Nat→AV)(ch:Qq)(a3:Nat)(al:Bool)(o:Oper)(st:St):Option St:=match CK gl ch a3 o st with
 |some (s,chg)=>match chg&& !al with
  |true=>none
  |false=>some s
 |none=>none
def stpH(P:Program)(gl:Nat→AV)(ch:Qq)(all:List Oper)(base:Nat)(hv hc:List Nat)(i:Nat)(o:Oper)(st:St):Option St:=
 match hv.any (Nat.beq i) with
 |true=>Ug gl ch (base+all.length) (hc.any (Nat.beq i)) o st
 |false=>Xp P gl (fun _=>ch) false (fun _=>none) all (base+i) o st
def hvOk(all:List Oper)(hv:List Nat):Prop:=∀j i,j<i→j∈hv→i∈hv→((Zx all []).getD i 0).testBit j=true
def HH(all:List Oper)(i:Nat):Bool:=(List.range all.length).all fun j=>Nat.beq j i || match all[j]? with
 |some o=>Nat.beq (hk o.op) 0 || (match Nat.blt j i with
  |true=>((Zx all []).getD i 0).testBit j
  |false=>((Zx all []).getD j 0).testBit i)
 |none=>true
def refsO(gl:Nat→AV)(o:Oper)(st:St):Bool:=match YH (st.ev gl) o.op with
 |some (_,args)=>match optJ (Y5 12) args with
  |some (_::_)=>true
  |_=>false
 |none=>false
def runH(P:Program)(gl:Nat→AV)(ch:Qq)(all:List Oper)(base:Nat):List Nat→List Nat→List Nat→St→Option (St×List Nat×List Nat)
 | [],hv,hc,st=>some (st,hv,hc)
 |i::l,hv,hc,st=>match all[i]? with
  |some o=>match(match refsO gl o st with | true=>CK gl ch (base+all.length) o st | false=>none) with
   |some (s,chg)=>match hv.all (fun j=>((Zx all []).getD i 0).testBit j) with
    |true=>match chg with
     |true=>match HH all i with
      |true=>runH P gl ch all base l (i::hv) (i::hc) s
      |false=>none
     |false=>runH P gl ch all base l (i::hv) hc s
    |false=>none
   |none=>match Xp P gl (fun _=>ch) false (fun _=>none) all (base+i) o st with
    |some s=>runH P gl ch all base l hv hc s
    |none=>none
  |none=>none
section
variable {P : Program} {m : Nat → Lc} {H : HV} {B : Nat → Prop} {H0 : HV} {gl : Nat → AV} {rest : List (AV × Value)} {st : St} {a : Act} {w : World} {ch : Qq} {all : List Oper}
theorem WM{a4:Nat}{o:Oper}{st':St}{a3:Bool}(h:CK gl ch a4 o st=some (st',a3)):
  ∃f args r hp' N nx',o.guard=none∧Z2 o.dst st.n=true∧a4≤st.nx∧YH (st.ev gl) o.op=some (f,args)∧WL ch (lkb st.hp) st.nx f args=some (r,pick hp' N,nx',a3)∧(∀id∈N,st.nx≤id∨∃b,lkb st.hp id=some b∧(a3=false→hp' id=some b))∧st.nx≤nx'∧
   st'=(⟨st.n,st.sl,Xt st.hp (pick hp' N),nx'⟩:St).putO o.dst r:=by
 unfold CK at h;split at h
 ·rename_i hg;split at h
  ·rename_i hd;rw[cqb] at hd;split at h
   ·rename_i f args hc;split at h
    ·rename_i r nb nx' a5 hx;cases h;obtain⟨hp',N,rfl,q2,q1⟩:=FC hx;exact⟨f,args,r,hp',N,nx',hg,hd.1,cqe hd.2,hc,hx,q1,q2,rfl⟩
    ·cases h
   ·cases h
  ·cases h
 ·cases h
theorem Cg{a4:Nat}{al:Bool}{o:Oper}{st':St}(h:Ug gl ch a4 al o st=some st'):∃a3,CK gl ch a4 o st=some (st',a3)∧(a3=true→al=true):=by
 grind [Ug]
theorem Mc{a4:Nat}{al a3:Bool}{o:Oper}{st':St}(h:CK gl ch a4 o st=some (st',a3))(a5:a3=true→al=true):Ug gl ch a4 al o st=some st':=by
 unfold Ug
 grind
theorem EI{a4:Nat}{o:Oper}{f:Nat}{args:List AV}{r:AV}{nb:List (Nat×Box)}{nx':Nat}{a3:Bool}(hg:o.guard=none)(hd:Z2 o.dst st.n=true)(ht:a4≤st.nx)(hc:YH (st.ev gl) o.op=some (f,args))(hx:WL ch (lkb st.hp) st.nx f args=some (r,nb,nx',a3)):
  CK gl ch a4 o st=some ((⟨st.n,st.sl,Xt st.hp nb,nx'⟩:St).putO o.dst r,a3):=by
 simp_all [CK,Z2,Nat.ble,cqb,Nat.ble_eq_true_of_le]
theorem Q62(a4:ch.Ok P gl)(h:RelS m H B H0 gl rest st a.tmps w){a6:Nat}{al:Bool}{o:Oper}{st':St}(hk:Ug gl ch a6 al o st=some st')(ro:Option Nat)(n:Nat):JV P ro n B H0 gl rest a w o st':=by
 obtain⟨a7,hk,_⟩:=Cg hk;obtain⟨f,args,r,hp',N,nx',hg,hd,ht,hc,hx,hN,aa,rfl⟩:=WM hk;refine Lu h hc ro n fun vs hl hr=> ?_
 refine(Q8x a4 h hl hr hx).mono fun e w' ⟨v,m',H',he,hb,a3,a5⟩=>⟨v,m',H',he,hb,?_⟩
 exact a3.putO (dst:=o.dst) hd a5
theorem Sd(h:RelS m H B H0 gl rest st a.tmps w){op:Op}{f:Nat}{args:List AV}(hc:YH (st.ev gl) op=some (f,args)):∀x∈args,∃v,RV H (st.env m) x v:=fun y hy=>by
 obtain⟨c,x,a6,ho,hx,hf,rfl⟩:=GH hc;rw[cqu,List.mem_map] at hy;rcases hy with⟨z,_,rfl⟩ | hy
 ·exact⟨_,h.ev z⟩
 ·have a3:=h.ev x;rw[hf] at a3;obtain⟨us,_,aa,a5⟩:=a3.fn_inv;obtain⟨j,hj⟩:=List.getElem?_of_mem hy;exact⟨_,a5 j y _ hj (cqh (by grind))⟩
theorem Pz{op:Op}{f:Nat}{args:List AV}{ev:Operand→AV}(hc:YH ev op=some (f,args)):hk op=1:=by
 obtain⟨c,x,a3,rfl,hx,_⟩:=GH hc;simp[hk,hx]
theorem lkb_new{hp hp':Hp}{N:List Nat}{t:Tr Box}{nx k:Nat}{C:Nat→Box→Prop}(hN:∀id∈N,nx≤id∨∃b,hp id=some b∧C id b)(hk:k<nx)(h0:hp k=none):lkb (Xt t (pick hp' N)) k=lkb t k:=by
 rw[VW,if_neg]
 grind
theorem Q39{hp':Hp}{N:List Nat}{nx:Nat}(hN:∀id∈N,nx≤id∨∃b,lkb st.hp id=some b∧(false=false→hp' id=some b))(hf:∀id,nx≤id→lkb st.hp id=none):Ext (lkb st.hp) (lkb (Xt st.hp (pick hp' N))):=fun id b hb=>by
 rw[VW]
 grind
theorem Q5r{x y:St}{a3:Nat}{al:Bool}{o:Oper}{s:St}(h:StEq x y)(hk:Ug gl ch a3 al o x=some s):∃s',Ug gl ch a3 al o y=some s'∧StEq s s':=by
 obtain⟨a6,hk,a4⟩:=Cg hk;obtain⟨f,args,r,hp',N,nx',hg,hd,ht,hc,hx,hN,aa,rfl⟩:=WM hk;refine⟨(⟨y.n,y.sl,Xt y.hp (pick hp' N),nx'⟩:St).putO o.dst r,?_,?_⟩;·refine Mc (EI hg (by rw[← h.n];exact hd) (by rw[← h.nx];exact ht) (by rw[← h.ev];exact hc) (by rw[← h.hp,← h.nx];exact hx)) a4
 ·refine⟨by rw[Le,Le];exact h.n,by grind [MC],fun k=> ?_,?_⟩
  ·have:=Vb (⟨x.n,x.sl,Xt x.hp (pick hp' N),nx'⟩:St) o.dst (r,none) k;have h2:=Vb (⟨y.n,y.sl,Xt y.hp (pick hp' N),nx'⟩:St) o.dst (r,none) k;show St.get (St.eff _ o.dst (r,none)) k=St.get (St.eff _ o.dst (r,none)) k;rw[this,h2];split;·rfl
   ·exact h.get k
  ·rw[Vz,Vz];funext k;rw[VW,VW,h.hp]
theorem swapSH(h:RelS m H B H0 gl rest st a.tmps w){oj oi:Oper}{bj an:Nat}{al:Bool}(hc:HB all oj oi=false)(ag:hkCl (hk oj.op) (hk oi.op)=false)(ar:al=true→hk oj.op=0){s1 s2:St}(h1:Xp P gl (fun _=>ch) false (fun _=>none) all bj oj st=some s1)(h2:Ug gl ch an al oi s1=some s2):
  ∃t1 t2,Ug gl ch an al oi st=some t1∧Xp P gl (fun _=>ch) false (fun _=>none) all bj oj t1=some t2∧StEq t2 s2:=by
 obtain⟨c1,c2,c3⟩:=I8 hc;rw[V0] at h1;split at h1
 ·rename_i k1;simp only[cqb,Option.isNone_iff_eq_none] at k1;obtain⟨⟨au,aa⟩,b1⟩:=k1;have a9:bj<st.nx:=cqe b1;split at h1
  ·rename_i rj b2;cases h1;obtain⟨ap,h2,a8⟩:=Cg h2;obtain⟨f,args,r,hp',N,nx',hg,hd,ht,a6,hx,hN,ai,rfl⟩:=WM h2;rw[MP] at hd;rw[Ca] at ht hx hN ai;obtain⟨e1,e2⟩:=Nr (st:=st) (gl:=gl) (all:=all) (o:=oi) rj c1;rw[NY e1] at a6;have b0:=Pz a6;have a7:∀id b,rj.2=some (id,b)→id=bj:=fun id b hb=>by
    have am:UG P (fun _=>ch) false (fun _=>none) all bj oj (gval all oj st) (st.ev gl) (lkb st.hp)=some (rj.1,some (id,b)):=by grind
    rcases Lk (fun _=>rfl) am with h | ⟨az,_⟩
    ·exact h
    ·rw[az,b0] at ag;cases ag
   have ah:Ext (lkb st.hp) (lkb (st.eff oj.dst rj).hp):=by
    rw[Jf];split
    ·rename_i id b hb;obtain rfl:=a7 id b hb;exact T9 aa
    ·exact fun _ _ h=>h
   rw[FA h ah (Sd h a6)] at hx;obtain⟨a4,N2,aj,b3,af⟩:=FC hx;have ak:∀t,Xt t (pick hp' N)=Xt t (pick a4 N2):=fun t=>by rw[aj]
   simp only[aj] at hx;have ax:∀id,st.nx≤id→lkb st.hp id=none:=fun id a7=>h.heap.fresh id a7
   let st':St:=⟨st.n,st.sl,Xt st.hp (pick a4 N2),nx'⟩
   have aw:st'.ev gl=st.ev gl:=by funext x;cases x<;>rfl
   have ay:gval all oj st'=gval all oj st:=by unfold gval;split<;>first | rfl | omega
   obtain⟨f1,f2⟩:=Nr (st:=st') (gl:=gl) (all:=all) (o:=oj) (r,none) c3;have ab:UG P (fun _=>ch) false (fun _=>none) all bj oj (gval all oj (st'.putO oi.dst r)) ((st'.putO oi.dst r).ev gl) (lkb (st'.putO oi.dst r).hp)=some rj:=by
    rw[← b2];refine MS (f2.trans ay) (fun x hx=>(f1 x hx).trans (congrFun aw x)) ?_
    rw[Vz];cases ap with
    |false=>exact TE h (Q39 af ax)
    |true=>exact TF (ar (a8 rfl))
   rw[ak];refine⟨st'.putO oi.dst r,(st'.putO oi.dst r).eff oj.dst rj,Mc (EI hg hd ht a6 hx) a8,?_,?_⟩
   ·rw[V0,if_pos,ab];simp only[cqb,Option.isNone_iff_eq_none,Le,Vz,MC];exact⟨⟨au,by show lkb (Xt st.hp (pick a4 N2)) bj=none;rw[lkb_new af a9 aa];exact aa⟩,Nat.ble_eq_true_of_le (Nat.lt_of_lt_of_le a9 ai)⟩
   ·refine⟨by grind [MP,Le],by grind [Ca,MC],fun k=> ?_,?_⟩
    ·rw[Vb];have q1:=Vb st' oi.dst (r,none) k;have q2:=Vb (⟨(st.eff oj.dst rj).n,(st.eff oj.dst rj).sl,Xt (st.eff oj.dst rj).hp (pick a4 N2),nx'⟩:St) oi.dst (r,none) k;have q3:=Vb st oj.dst rj k;rw[show(st'.putO oi.dst r).get k=_ from q1];refine Eq.trans ?_ (Eq.symm q2);have q4:St.get (⟨(st.eff oj.dst rj).n,(st.eff oj.dst rj).sl,Xt (st.eff oj.dst rj).hp (pick a4 N2),nx'⟩:St) k=(st.eff oj.dst rj).get k:=rfl
     rw[q4,q3];by_cases k1:oj.dst=some k<;>by_cases k2:oi.dst=some k<;>simp only[k1,k2,if_true,if_false]
     ·grind [absurd,WD]
     all_goals rfl
    ·rw[Jf,Vz,Vz];funext k;show(match rj.2 with | some (id,b)=>updF (lkb (Xt st.hp (pick a4 N2))) id (some b) | none=>lkb (Xt st.hp (pick a4 N2))) k=lkb (Xt (st.eff oj.dst rj).hp (pick a4 N2)) k
     rw[VW (hp:=a4) N2 (st.eff oj.dst rj).hp,Jf];cases hb:rj.2 with
     |some x=>
      obtain⟨id,b⟩:=x;obtain rfl:=a7 id b hb;by_cases e:k=id
      ·subst e;simp only[Qn]
       grind
      simp_all [Qz,VW]
     |none=>simp only[VW]
  ·cases h1
 ·cases h1
theorem swapHS(h:RelS m H B H0 gl rest st a.tmps w){oj oi:Oper}{bi a7:Nat}{al:Bool}(ai:bi<a7)(hc:HB all oj oi=false)(ab:hkCl (hk oj.op) (hk oi.op)=false)(ah:al=true→hk oi.op=0){s1 s2:St}(h1:Ug gl ch a7 al oj st=some s1)(h2:Xp P gl (fun _=>ch) false (fun _=>none) all bi oi s1=some s2):
  ∃t1 t2,Xp P gl (fun _=>ch) false (fun _=>none) all bi oi st=some t1∧Ug gl ch a7 al oj t1=some t2∧StEq t2 s2:=by
 obtain⟨c1,c2,c3⟩:=I8 hc;obtain⟨af,h1,a6⟩:=Cg h1;obtain⟨f,args,r,hp',N,nx',hg,hd,ht,aa,hx,hN,b9,rfl⟩:=WM h1;have ap:=Pz aa;rw[V0] at h2;split at h2
 ·rename_i k1;simp only[cqb,Option.isNone_iff_eq_none,Le,Vz,MC] at k1;obtain⟨⟨b6,a9⟩,b8⟩:=k1;have ar:bi<st.nx:=Nat.lt_of_lt_of_le ai ht;have a9:lkb st.hp bi=none:=by
   grind [VW]
  split at h2
  ·rename_i ri aq;cases h2;have am:∀id,st.nx≤id→lkb st.hp id=none:=fun id a5=>h.heap.fresh id a5
   let st':St:=⟨st.n,st.sl,Xt st.hp (pick hp' N),nx'⟩
   have ak:st'.ev gl=st.ev gl:=by funext x;cases x<;>rfl
   have an:gval all oi st'=gval all oi st:=by unfold gval;split<;>first | rfl | omega
   obtain⟨f1,f2⟩:=Nr (st:=st') (gl:=gl) (all:=all) (o:=oi) (r,none) c1;have aj:UG P (fun _=>ch) false (fun _=>none) all bi oi (gval all oi st) (st.ev gl) (lkb st.hp)=some ri:=by
    rw[← aq];refine(MS (f2.trans an) (fun x hx=>(f1 x hx).trans (congrFun ak x)) ?_).symm
    rw[Vz];cases af with
    |false=>exact TE h (Q39 hN am)
    |true=>exact TF (ah (a6 rfl))
   have a5:∀id b,ri.2=some (id,b)→id=bi:=fun id b hb=>by
    have ad:UG P (fun _=>ch) false (fun _=>none) all bi oi (gval all oi st) (st.ev gl) (lkb st.hp)=some (ri.1,some (id,b)):=by grind
    rcases Lk (fun _=>rfl) ad with h | ⟨ao,_⟩
    ·exact h
    ·rw[ao,ap] at ab;cases ab
   obtain⟨g1,g2⟩:=Nr (st:=st) (gl:=gl) (all:=all) (o:=oj) ri c3;have au:Ext (lkb st.hp) (lkb (st.eff oi.dst ri).hp):=by
    rw[Jf];split
    ·rename_i id b hb;obtain rfl:=a5 id b hb;exact T9 a9
    ·exact fun _ _ h=>h
   refine⟨st.eff oi.dst ri,(⟨(st.eff oi.dst ri).n,(st.eff oi.dst ri).sl,Xt (st.eff oi.dst ri).hp (pick hp' N),nx'⟩:St).putO oj.dst r,?_,?_,?_⟩
   ·simp_all [V0,if_pos,cqb,Option.isNone_iff_eq_none,Nat.ble_eq_true_of_le]
   ·exact Mc (EI hg (by grind [MP]) (by grind [Ca]) (by rw[NY g1];exact aa) (by grind [FA,Sd,Ca])) a6
   ·refine⟨by simp only[MP,Le],by simp only[Ca,MC],fun k=> ?_,?_⟩
    ·rw[Vb];have q1:=Vb st' oj.dst (r,none) k;have q2:=Vb (⟨(st.eff oi.dst ri).n,(st.eff oi.dst ri).sl,Xt (st.eff oi.dst ri).hp (pick hp' N),nx'⟩:St) oj.dst (r,none) k;have q3:=Vb st oi.dst ri k;rw[show(st'.putO oj.dst r).get k=_ from q1];refine Eq.trans q2 ?_;have q4:St.get (⟨(st.eff oi.dst ri).n,(st.eff oi.dst ri).sl,Xt (st.eff oi.dst ri).hp (pick hp' N),nx'⟩:St) k=(st.eff oi.dst ri).get k:=rfl;rw[q4,q3]
     by_cases k1:oj.dst=some k<;>by_cases k2:oi.dst=some k<;>simp only[k1,k2,if_true,if_false]
     ·grind [absurd,WD]
     all_goals rfl
    ·rw[Jf,Vz,Vz];funext k;show lkb (Xt (st.eff oi.dst ri).hp (pick hp' N)) k=(match ri.2 with | some (id,b)=>updF (lkb (Xt st.hp (pick hp' N))) id (some b) | none=>lkb (Xt st.hp (pick hp' N))) k
     rw[VW (hp:=hp') N (st.eff oi.dst ri).hp,Jf];cases hb:ri.2 with
     |some x=>
      obtain⟨id,b⟩:=x;obtain rfl:=a5 id b hb;by_cases e:k=id
      ·subst e;simp only[Qn]
       grind
      simp_all [Qz,VW]
     |none=>simp only[VW]
  ·cases h2
 ·cases h2
theorem L1{hv:List Nat}{i:Nat}:hv.any (Nat.beq i)=true↔i∈hv:=by
 simp_all
theorem Sn{i j:Nat}{oj:Oper}(h:HH all i=true)(hj:all[j]? =some oj)(a3:j≠i):hk oj.op=0∨(j<i∧((Zx all []).getD i 0).testBit j=true)∨(i<j∧((Zx all []).getD j 0).testBit i=true):=by
 have:=cqt.1 h j (List.mem_range.2 (cqd.1 hj).1);rw[Rt a3,hj] at this;simp only[Bool.false_or,Bool.or_eq_true] at this
 grind [cqa,cqe,Nat.blt,Nat.ble_eq_true_of_le]
theorem Q43(a5:ch.Ok P gl)(aa:Vm all=true)(a9:mdR all=false){base:Nat}{hv hc:List Nat}(a7:hvOk all hv)(af:∀i∈hc,HH all i=true):II P B H0 gl rest all (stpH P gl ch all base hv hc) where
 sound:=fun {i o st s a w m H} h hk ro n next Q hn=>by
  unfold stpH at hk;split at hk
  ·obtain⟨_,a8,_⟩:=Cg hk;obtain⟨_,_,_,_,_,_,hg,_⟩:=WM a8;rw[if_pos (by simp[Region.wanted,hg])]
   exact Q62 a5 h hk ro n next Q hn
  ·exact Nw (L2 a5) h hk ro n next Q hn
 eq:=fun {i o x y s} h hk=>by
  unfold stpH at hk ⊢;split at hk
  ·grind [Q5r,hk]
  ·rename_i hi;exact h.stepO hk
 swap:=fun {j i oj oi st s1 s2 a w m H} hji hoj hoi hbit h h1 h2=>by
  have a3:M0 (mdR all) all oj oi=false:=by
   cases a3:M0 (mdR all) all oj oi with
   |false=>rfl
   |true=>have:=(Yf aa i oi hoi).pair j oj hji hoj a3;simp_all
  rw[a9] at a3;simp only[M0,Bool.or_eq_false_iff,Bool.not_false,Bool.true_and] at a3;have ag:i<all.length:=(cqd.1 hoi).1;unfold stpH at h1 h2 ⊢;cases hj:hv.any (Nat.beq j) with
  |true=>
   simp only[hj] at h1 ⊢;cases hi:hv.any (Nat.beq i) with
   |true=>
    have:=a7 j i hji (L1.1 hj) (L1.1 hi)
    simp_all
   |false=>
    simp only[hi] at h2;refine swapHS h (by omega) a3.1 a3.2 (fun ad=> ?_) h1 h2
    grind [Sn,L1]
  |false=>
   simp only[hj] at h1 ⊢;cases hi:hv.any (Nat.beq i) with
   |true=>
    simp only[hi] at h2
    grind [swapSH,Sn,L1]
   |false=>
    simp only[hi] at h2;exact swap h (by omega) ⟨a3.1,.inl a3.2⟩ h1 h2
theorem Tv{base:Nat}:∀(n k:Nat) (hv hc a4 a3:List Nat) (st s:St),runH P gl ch all base (List.range' k n) hv hc st=some (s,a4,a3)→(∀j∈hv,j<k)→(∀j∈hc,j<k)→hvOk all hv→(∀i∈hc,HH all i=true)→
  hvOk all a4∧(∀i∈a3,HH all i=true)∧(∀j,j<k→(j∈a4↔j∈hv))∧(∀j,j<k→(j∈a3↔j∈hc))∧runG (stpH P gl ch all base a4 a3) all (List.range' k n) st=some s
 |0,k,hv,hc,a4,a3,st,s,h,h1,h1c,h2,h3=>by
  simp only[List.range'_zero,runH,cqf,Prod.mk.injEq] at h;obtain⟨rfl,rfl,rfl⟩:=h;exact⟨h2,h3,fun j _=>Iff.rfl,fun j _=>Iff.rfl,rfl⟩
 |n+1,k,hv,hc,a4,a3,st,s,h,h1,h1c,h2,h3=>by
  simp only[List.range'_succ,runH] at h;split at h
  ·rename_i o ho;split at h
   ·rename_i s1 aj a9;have a9:CK gl ch (base+all.length) o st=some (s1,aj):=by
     grind
    split at h
    ·rename_i ao;have ad:hvOk all (k::hv):=fun j i ak hj hi=>by
      rcases List.mem_cons.1 hi with e | hi
      ·grind
      ·rcases List.mem_cons.1 hj with e | hj
       ·grind
       ·exact h2 j i ak hj hi
     have ab:∀j∈k::hv,j<k+1:=fun j hj=>by
      grind
     have a7:∀l:List Nat,∀j,j<k→(j∈k::l↔j∈l):=fun l j hj=>⟨fun h=>by
      grind,fun h=>by simp[h]⟩
     split at h
     ·split at h
      ·rename_i an;obtain⟨q1,q2,q3,q4,q5⟩:=Tv n (k+1) (k::hv) (k::hc) a4 a3 s1 s h ab (fun j hj=>by
        grind) ad (fun i hi=>by
        grind)
       refine⟨q1,q2,fun j hj=>(q3 j (by omega)).trans (a7 hv j hj),fun j hj=>(q4 j (by omega)).trans (a7 hc j hj),?_⟩
       have hk:a4.any (Nat.beq k)=true:=L1.2 ((q3 k (by omega)).2 (by simp))
       have am:a3.any (Nat.beq k)=true:=L1.2 ((q4 k (by omega)).2 (by simp))
       simp only[List.range'_succ,runG,ho,stpH,hk,am,Mc a9 (fun _=>rfl)]
       exact q5
      ·cases h
     ·obtain⟨q1,q2,q3,q4,q5⟩:=Tv n (k+1) (k::hv) hc a4 a3 s1 s h ab (fun j hj=>by grind) ad h3
      refine⟨q1,q2,fun j hj=>(q3 j (by omega)).trans (a7 hv j hj),fun j hj=>q4 j (by omega),?_⟩
      have hk:a4.any (Nat.beq k)=true:=L1.2 ((q3 k (by omega)).2 (by simp))
      simp only[List.range'_succ,runG,ho,stpH,hk,Mc a9 (al:=a3.any (Nat.beq k)) (fun e=>by cases e)]
      exact q5
    ·cases h
   ·split at h
    ·rename_i s1 a9;obtain⟨q1,q2,q3,q4,q5⟩:=Tv n (k+1) hv hc a4 a3 s1 s h (fun j hj=>by grind) (fun j hj=>by grind) h2 h3
     grind [hk,Nat.beq,L1,List.range'_succ,runG,stpH]
    ·cases h
  ·cases h
end
abbrev Yb:=Nat→List AV→Tr Box→Nat→Option (AV×Tr Box×Nat)
def RoundOk(P:Program)(gl:Nat→AV)(id:Nat)(args:List AV)(hp:Tr Box)(nx:Nat)(r:AV)(hp':Tr Box)(nx':Nat):Prop:=
 ∀(m:Nat→Lc) (H:HV) (B:Nat→Prop) (H0:HV) (rest:List (AV×Value)) (w:World) (vs:Array Value) (l:Nat),RelH m H B H0 gl (lkb hp) nx w→(Q6 (lkb hp) m).lp id=some l→args.length=vs.size→
  (∀(j:Nat) (x:AV) (v:Value),args[j]? =some x→vs[j]? =some v→RV H (Q6 (lkb hp) m) x v)→(∀p∈rest,RV H (Q6 (lkb hp) m) p.1 p.2)→
  ∃fn tmps a3 bd,(Instr.yield l vs).run P w= .ok (.round l fn tmps a3 bd) w∧∀ro n,RoundIn (FW ro) n P l fn tmps a3 bd w fun e w'=>
   ∃v m' H',e= .returned v∧Qa B w w'∧RelH m' H' B H0 gl (lkb hp') nx' w'∧RV H' (Q6 (lkb hp') m') r v∧∀p∈rest,RV H' (Q6 (lkb hp') m') p.1 p.2
def Yb.Ok(P:Program)(gl:Nat→AV)(rd:Yb):Prop:=∀id args hp nx r hp' nx',rd id args hp nx=some (r,hp',nx')→RoundOk P gl id args hp nx r hp' nx'
def Q1o(ev:Operand→AV)(op:Op):Option (Nat×List AV):=
 match op with
 | .call c=>match c.callee with
  | .value x=>match ev x with
   | .yld id=>some (id,c.args.toList.map ev)
   |_=>none
  |_=>none
 |_=>none
def xinl(ch:Qq)(rd:Yb)(ev:Operand→AV)(op:Op)(dst:Option Nat)(st:St):Option St:=
 match YH ev op with
 |some (f,args)=>match ch f args st.hp st.nx with
  |some (r,hp',nx')=>some ((st.setHp hp' nx').putO dst r)
  |none=>none
 |none=>match Q1o ev op with
  |some (id,args)=>match rd id args st.hp st.nx with
   |some (r,hp',nx')=>some ((st.setHp hp' nx').putO dst r)
   |none=>none
  |none=>none
def H8(P:Program)(gl:Nat→AV)(ch:Qq)(rd:Yb)(o:Oper)(st:St):Option St:=
 if VQ o.op then xinl ch rd (st.ev gl) o.op o.dst st
 else match xop P st.nx o.dst o.op (st.ev gl) (lkb st.hp) with
  |some r=>match r.2 with
   |some _=>some ((st.bump 1).eff o.dst r)
   |none=>some (st.putO o.dst r.1)
  |none=>match xopM P st.nx o.dst o.op (st.ev gl) (lkb st.hp) with
   |some r=>some ((st.bump 1).eff o.dst r)
   |none=>none
def xseq(P:Program)(gl:Nat→AV)(ch:Qq)(rd:Yb)(all:List Oper):List Oper→St→Option St
 | [],st=>some st
 |o::l,st=>if Z2 o.dst st.n then(match o.guard with
  |none=>match H8 P gl ch rd o st with
   |some s=>xseq P gl ch rd all l s
   |none=>none
  |some (j,want)=>match M1 all j with
   |some g=>match LH (st.get g) want with
    |some true=>match H8 P gl ch rd o st with
     |some s=>xseq P gl ch rd all l s
     |none=>none
    |some false=>xseq P gl ch rd all l (st.putO o.dst (.tup []))
    |none=>none
   |none=>none) else none
def HA(l:List Oper):Option Oper:=
 match l[l.length - 1]? with
 |some o=>match o.op with
  | .mapUpdate .. =>match o.guard with
   |none=>some o
   |_=>none
  | .call c=>match c.callee with
   | .value (.tmp _)=>match o.guard with
    |none=>some o
    |_=>none
   | .builtin .copy=>match o.guard with
    |none=>some o
    |_=>none
   |_=>none
  |_=>none
 |none=>none
def QN:Code→Bool
 | .region _ ops draw=> !draw || (Vm ops.toList&& (match HA ops.toList with | some _=>E9 ops.toList | none=>true))
 | .seq a b=>QN a&&QN b
 | .cond _ a b=>QN a&&QN b
 | .block _ c=>QN c
 | .loop c=>QN c
 | .scope c=>QN c
 | .rangeFunc _ _ a b=>QN a&&QN b
 |_=>true
def Bb(P:Program)(gl:Nat→AV)(ch:Qq)(l:List Oper)(base:Nat)(n:Nat)(st:St):Option St:=match mdR l with
 |true=>runF P gl (fun _=>ch) l base (List.range n) (fun _=>none) st
 |false=>match runH P gl ch l base (List.range n) [] [] st with
  |some (s,_,_)=>some s
  |none=>none
theorem Q0p{P:Program}{gl:Nat→AV}{ch:Qq}{l:List Oper}{base n:Nat}{st s:St}(h:Bb P gl ch l base n st=some s):
  (∃F,runI P gl (fun _=>ch) (mdR l) F l base (List.range n) st=some s∧(mdR l=true→IH F l base n))∨(mdR l=false∧∃hv hc,hvOk l hv∧(∀i∈hc,HH l i=true)∧runG (stpH P gl ch l base hv hc) l (List.range n) st=some s):=by
 unfold Bb at h;cases hm:mdR l with
 |true=>simp_all [Q7d]
 |false=>
  rw[hm] at h;simp only at h;split at h
  ·rename_i hv hc hs;cases h;rw[List.range_eq_range'] at hs;obtain⟨q2,q3,_,_,q4⟩:=Tv n 0 [] [] hv hc st s hs (fun j hj=>by cases hj) (fun j hj=>by cases hj) (fun j i _ hj=>by cases hj) (fun i hi=>by cases hi)
   rw[← List.range_eq_range'] at q4
   grind
  ·cases h
def xregD(P:Program)(gl:Nat→AV)(ch:Qq)(rd:Yb)(l:List Oper)(st:St):Option St:=
 match HA l with
 |some o=>match Bb P gl ch l st.nx (l.length - 1) (st.bump l.length) with
  |some s=>if Z2 o.dst s.n then(match xopM P s.nx o.dst o.op (s.ev gl) (lkb s.hp) with
   |some r=>some ((s.bump 1).eff o.dst r)
   |none=>xinl ch rd (s.ev gl) o.op o.dst s) else none
  |none=>none
 |none=>Bb P gl ch l st.nx l.length (st.bump l.length)
def lift(o:Option St):Option (Exit×St×List Nat):=match o with | some s=>some (.normal,s,[]) | none=>none
def Ru(P:Program)(f:Nat):Bool:=match P.funcs[f]? with
 |some fn=>(fn.name != "runtime.NumGoroutine")&&fn.body.isSome
 |none=>false
theorem Ve{P:Program}{f:Nat}(h:Ru P f=true):NF P f:=by
 unfold Ru at h;split at h
 ·simp_all [cqb,bne_iff_ne,Gu]
 ·cases h
def Q1j(P:Program)(gl:Nat→AV)(ch:Qq)(g:Operand)(ps:Array Tmp)(a3 bd:Code)(st:St):Option (Exit×St×List Nat):=
 match st.ev gl g with
 | .fn f caps=>bif Ru P f then match ch f (.yld (st.nx+1)::caps) (pt (pt st.hp st.nx (.defb true)) (st.nx+1) (.loop .ready none st.n st.sl ps a3 bd st.nx)) (st.nx+2) with
  |some (_,hp',nx')=>match lkb hp' (st.nx+1) with
   |some (.loop s3 pend n3 sl3 ps3 as3 bd3 d3)=>if s3= .busy then none else match pend with
    |none=>some (.normal,st.setHp (pt hp' (st.nx+1) (.loop .exhausted pend n3 sl3 ps3 as3 bd3 d3)) nx',[st.nx])
    |some .ret=>some (.ret,st.setHp (pt hp' (st.nx+1) (.loop .exhausted pend n3 sl3 ps3 as3 bd3 d3)) nx',[st.nx])
    |some (.exit i)=>some (.exit i,st.setHp (pt hp' (st.nx+1) (.loop .exhausted pend n3 sl3 ps3 as3 bd3 d3)) nx',[st.nx])
    |_=>none
   |_=>none
  |none=>none
  else none
 |_=>none
def V8(P:Program)(gl:Nat→AV)(ch:Qq)(rd:Yb)(a3:Bool):Nat→Code→St→Option (Exit×St×List Nat)
 |0,_,_=>none
 |k+1,c,st=>match c with
  | .skip=>some (.normal,st,[])
  | .label _=>some (.normal,st,[])
  | .exit id=>some (.exit id,st,[])
  | .ret=>some (.ret,st,[])
  | .region _ ops draw=>bif draw then lift (xregD P gl ch rd ops.toList st) else lift (xseq P gl ch rd ops.toList ops.toList st)
  | .seq a b=>match V8 P gl ch rd a3 k a st with
   |some (.normal,s,d)=>match V8 P gl ch rd a3 k b s with
    |some (e,s',d')=>some (e,s',d'++d)
    |none=>none
   |r=>r
  | .cond c a b=>match st.ev gl c with
   | .bool t=>bif t then V8 P gl ch rd a3 k a st else V8 P gl ch rd a3 k b st
   |_=>none
  | .block id c=>match V8 P gl ch rd a3 k c st with
   |some (.exit i,s,d)=>if i=id then some (.normal,s,d) else some (.exit i,s,d)
   |r=>r
  | .loop c=>match V8 P gl ch rd a3 k c st with
   |some (.normal,s,d)=>match V8 P gl ch rd a3 k (.loop c) s with
    |some (e,s',d')=>some (e,s',d'++d)
    |none=>none
   |r=>r
  | .rangeFunc g ps azz bd=>bif a3 then Q1j P gl ch g ps azz bd st else none
  | .scope c=>match V8 P gl ch rd a3 k c st with
   |some (.goto _,_,_)=>none
   |r=>r
  |_=>none
def IN(D:List (Nat×Nat)):List Deferred:=D.map fun p=> {target:=.collected p.2,args:= #[]}
def VS(gl:Nat→AV)(B:Nat→Prop)(H0:HV)(rest:List (AV×Value))(a:Act)(w:World)(st':St)(ds:List Nat)(a':Act)(w':World):Prop:=
 ∃m' H' D,D.map (·.1)=ds∧a'.defers=IN D++a.defers∧(∀p∈D,(st'.env m').lp p.1=some p.2)∧Qa B w w'∧RelS m' H' B H0 gl rest st' a'.tmps w'
def Bh(P:Program)(gl:Nat→AV)(ro:Option Nat)(n:Nat)(c:Code)(st:St)(ex:Exit)(st':St)(ds:List Nat):Prop:=
 ∀(B:Nat→Prop) (H0:HV) (rest:List (AV×Value)) (m:Nat→Lc) (H:HV) (a:Act) (w:World),RelS m H B H0 gl rest st a.tmps w→c.wpIn (FW ro) n P (fun e a' w'=>e=ex∧VS gl B H0 rest a w st' ds a' w') a w
section
variable {P : Program} {m : Nat → Lc} {H : HV} {B : Nat → Prop} {H0 : HV} {gl : Nat → AV} {rest : List (AV × Value)} {st : St} {a : Act} {w : World} {ch : Qq} {rd : Yb}
theorem T1{H':HV}{E E':Env}{x:AV}(h:RV H E x Go.undef):RV H' E' x Go.undef:=by
 unfold Go.undef at h ⊢;cases h with
 |imm _ _ h=>
  cases h with
  |undef=>exact .imm _ _ (.undef _)
  |val=>exact .imm _ _ (.val _)
  |tup cs _ hl _=>
   have:cs=[]:=cqn (by omega)
   subst this;exact .tup [] #[] rfl (fun j c v hj=>by simp at hj)
 |tup cs _ hl _=>
  have:cs=[]:=cqn (by omega)
  subst this;exact .tup [] #[] rfl (fun j c v hj=>by simp at hj)
theorem RelS.taken(h:RelS m H B H0 gl rest st a.tmps w){dst:Option Nat}(hd:Z2 dst st.n=true){hp':Tr Box}{nx':Nat}{r:AV}{v:Value}{m':Nat→Lc}{H':HV}{w':World}(hh:RelH m' H' B H0 gl (lkb hp') nx' w')(a6:RV H' (Q6 (lkb hp') m') r v)
  (a3:∀p∈ (List.range st.n).map (fun k=>(st.get k,a.tmps.getD k Go.undef))++rest,RV H' (Q6 (lkb hp') m') p.1 p.2):RelS m' H' B H0 gl rest ((st.setHp hp' nx').putO dst r) (a.put dst v).tmps w':=by
 have h1:RelS m' H' B H0 gl rest (st.setHp hp' nx') a.tmps w':=by
  refine⟨hh,h.size,fun k=> ?_,fun p hp=>a3 p (List.mem_append_right _ hp)⟩
  rcases Nat.lt_or_ge k st.n with a5 | a4
  ·exact a3 (st.get k,a.tmps.getD k Go.undef) (List.mem_append_left _ (List.mem_map.2 ⟨k,List.mem_range.2 a5,rfl⟩))
  ·have hu:a.tmps.getD k Go.undef=Go.undef:=by rw[cqj,Array.getElem?_eq_none (by rw[h.size];exact a4)];rfl
   have:=h.slot k;rw[hu] at this ⊢;exact T1 this
 exact h1.putO hd a6
theorem RelS.hold(h:RelS m H B H0 gl rest st a.tmps w):∀p∈ (List.range st.n).map (fun k=>(st.get k,a.tmps.getD k Go.undef))++rest,RV H (st.env m) p.1 p.2:=fun p hp=>by
 rw[cqu,List.mem_map] at hp;rcases hp with⟨q,_,rfl⟩ | hp
 ·exact h.slot _
 ·exact h.rest p hp
theorem Q85{ev:Operand→AV}{op:Op}{id:Nat}{args:List AV}(h:Q1o ev op=some (id,args)):∃c x,op= .call c∧c.callee= .value x∧ev x= .yld id∧args=c.args.toList.map ev:=by
 unfold Q1o at h
 grind
theorem BN(af:ch.Ok P gl)(ak:rd.Ok P gl)(h:RelS m H B H0 gl rest st a.tmps w){o:Oper}(hd:Z2 o.dst st.n=true){st':St}(hk:xinl ch rd (st.ev gl) o.op o.dst st=some st')(ro:Option Nat)(n:Nat):JV P ro n B H0 gl rest a w o st':=by
 unfold xinl at hk;split at hk
 ·rename_i f args hc;split at hk
  ·rename_i r hp' nx' hr;cases hk;have a7:=af _ _ _ _ _ _ _ hr;refine Lu h hc ro n fun vs hl hv=> ?_
   refine(a7 m H B H0 _ w vs h.heap hl hv h.hold).mono fun e w' a3=> ?_
   obtain⟨v,m',H',rfl,hb,hh,a9,a4⟩:=a3;exact⟨v,m',H',rfl,hb,h.taken hd hh a9 a4⟩
  ·cases hk
 ·split at hk
  ·rename_i id args hy;split at hk
   ·rename_i r hp' nx' hr;cases hk;obtain⟨c,x,ho,hx,ag,rfl⟩:=Q85 hy;have ab:=h.ev x;rw[ag] at ab;obtain⟨l,hl,ai⟩:=ab.yld_inv;have a6:=Ie h c.args.toList;obtain⟨fn,tmps,ae,bd,aa,a5⟩:=ak _ _ _ _ _ _ _ hr m H B H0 _ w (c.args.map a.eval) l h.heap ai (by simp) (fun j y v hy hv=>a6.2 j y v hy (by simp_all)) h.hold
    intro next Q hn;refine⟨fun _ _=>trivial,?_⟩
    have a8:(execOp a.eval o).run P w= .ok (.round l fn tmps ae bd) w:=by
     unfold execOp;simp only[ho,resolve,hx,cqv,hl,Deferred.ofValue,Sem.run_pure,cqw,invoke,Array.empty_append];exact aa
    rw[Oper.semAt_eq _ _ _ (fun c e=>by simp_all),a8]
    refine⟨(fun hh=>by grind [FW]),(a5 ro (n - 1)).mono fun e w' a3=> ?_⟩
    obtain⟨v,m',H',rfl,hb,hh,a9,a4⟩:=a3;exact hn _ _ _ _ (Xw _ _ _) hb (h.taken hd hh a9 a4)
   ·cases hk
  ·cases hk
theorem RelS.bump(h:RelS m H B H0 gl rest st a.tmps w)(k:Nat):RelS m H B H0 gl rest (st.bump k) a.tmps w:=
 ⟨{h.heap with fresh:=fun id a3=>h.heap.fresh id (Nat.le_trans (Nat.le_add_right _ _) a3)},h.size,h.slot,h.rest⟩
theorem xop_ok0(h:RelS m H B H0 gl rest st a.tmps w){o:Oper}(hd:Z2 o.dst st.n=true){r:AV×Option (Nat×Box)}(hk:xop P st.nx o.dst o.op (st.ev gl) (lkb st.hp)=some r)(hn:r.2=none):
  OpOk P B H0 gl rest a w o.dst (st.putO o.dst r.1) (execOp a.eval o):=by
 have h1:=Q1i (P:=P) (st:=st.bump 1) (h.bump 1) hd (h.heap.fresh _ (Nat.le_refl _)) (Nat.lt_succ_self _) hk;obtain⟨v,b⟩:=r;cases hn;obtain⟨nx,u,w',m',H',h2,h3,h4,h5⟩:=h1;refine⟨nx,u,w',m',H',h2,h3,h4,?_⟩;have a4:((st.bump 1).eff o.dst (v,none)).hp=st.hp:=by show((st.bump 1).putO o.dst v).hp=st.hp;rw[Vz];rfl
 have a5:∀k,((st.bump 1).eff o.dst (v,none)).get k=(st.putO o.dst v).get k:=fun k=>by cases o.dst<;>rfl
 refine⟨?_,?_,fun k=> ?_,fun p hp=> ?_⟩
 ·have hh:=h5.heap;rw[a4] at hh;rw[Vz,MC];exact {hh with fresh:=h.heap.fresh}
 ·rw[Le];have:=h5.size;rw[MP] at this;exact this
 ·have:=h5.slot k
  simp_all [Q6,lkb,Vz,St.env]
 ·have:=h5.rest p hp
  simp_all [Q6,lkb,Vz,St.env]
theorem EJ(a5:ch.Ok P gl)(a7:rd.Ok P gl)(h:RelS m H B H0 gl rest st a.tmps w){o:Oper}(hd:Z2 o.dst st.n=true){st':St}(hk:H8 P gl ch rd o st=some st')(ro:Option Nat)(n:Nat):JV P ro n B H0 gl rest a w o st':=by
 unfold H8 at hk;split at hk
 ·grind [BN,hk]
 ·split at hk
  ·rename_i r hr;have h1:=(Q1i (st:=st.bump 1) (h.bump 1) hd (h.heap.fresh _ (Nat.le_refl _)) (Nat.lt_succ_self _) hr).step (ro:=ro) (n:=n) (Ho hr);split at hk
   ·simp_all
   ·rename_i hn;cases hk;have h2:=(xop_ok0 h hd hr hn).step (ro:=ro) (n:=n) (Ho hr);exact h2
  ·split at hk
   ·rename_i r hr;cases hk;exact(Px (st:=st.bump 1) (h.bump 1) hd (h.heap.fresh _ (Nat.le_refl _)) (Nat.lt_succ_self _) hr).step (ro:=ro) (n:=n) (Iw hr)
   ·cases hk
theorem Q4o(a5:ch.Ok P gl)(a7:rd.Ok P gl){all:List Oper}{ro:Option Nat}{n:Nat}{d0:List Deferred}{w0:World}{sF:St}{Q:Exit→Act→World→Prop}
  (hQ:∀(a:Act) (w:World) (m:Nat→Lc) (H:HV),a.defers=d0→Qa B w0 w→RelS m H B H0 gl rest sF a.tmps w→Q .normal a w):
  ∀(a3 l:List Oper) (st:St) (a:Act) (w:World) (m:Nat→Lc) (H:HV),all=a3++l→xseq P gl ch rd all l st=some sF→a.defers=d0→Qa B w0 w→RelS m H B H0 gl rest st a.tmps w→wpOpsIn (FW ro) n P all.toArray Q (List.range' a3.length l.length) a w
 |a3,[],st,a,w,m,H,_,hk,hd,hb,hr=>by
  simp only[xseq,cqf] at hk;subst hk;exact hQ a w m H hd hb hr
 |a3,o::l,st,a,w,m,H,he,hk,hd,hb,hr=>by
  simp only[List.length_cons,List.range'_succ,wpOpsIn];have ho:all.toArray[a3.length]? =some o:=by simp_all
  simp only[ho];have ih:=Q4o a5 a7 (all:=all) (ro:=ro) (n:=n) hQ (a3++[o]) l;simp only[List.length_append,List.length_cons,List.length_nil,Nat.zero_add,List.append_assoc,List.singleton_append] at ih;simp only[xseq] at hk;split at hk
  ·rename_i a4;have go:∀s,H8 P gl ch rd o st=some s→xseq P gl ch rd all l s=some sF→o.wpIn (FW ro) n P a w (wpOpsIn (FW ro) n P all.toArray Q (List.range' (a3.length+1) l.length)) Q:=fun s hs hk=>
    EJ a5 a7 hr a4 hs ro n _ _ fun a' w' m' H' aa a9 ab=>ih s a' w' m' H' he hk (aa.trans hd) (hb.trans a9) ab
   split at hk
   ·rename_i hg;rw[if_pos (by simp[Region.wanted,hg])]
    grind
   ·rename_i j af hg;split at hk
    ·rename_i g a6;split at hk
     ·rename_i ht;rw[if_pos (Lj hg a6 ht (hr.slot g))]
      grind
     ·rename_i ht;rw[if_neg (by rw[Lj hg a6 ht (hr.slot g)];simp)]
      exact⟨fun _ _=>trivial,ih _ _ w m H he hk ((Xw _ _ _).trans hd) hb (hr.putO a4 (.tup [] #[] rfl (fun j c v hj=>by simp at hj)))⟩
     ·cases hk
    ·cases hk
  ·cases hk
theorem Sy{F:Fence}{n:Nat}{Q:Exit→Act→World→Prop}{c:Code}(I:Nat→Act→World→Prop)
  (round:∀j a w,I j a w→c.wpIn F n P (Exit.then (fun a' w'=>∃i,i<j∧I i a' w') Q) a w) {j:Nat} {a:Act} {w:World} (h₀:I j a w):(Code.loop c).wpIn F n P Q a w:=by
 intro b k cs ae hb hr;have key:∀j a w,I j a w→∃e a' w',Q e a' w'∧ArrivesIn (Machine.fenced P F) P (lone (b.atR a (.code c:: .inLoop c::k)) cs w) b k cs e a' w':=by
  intro j
  induction j using Nat.strongRecOn with
  |_ j ih=>
   intro a w hI;obtain⟨e,a₁,w₁,hq,a3⟩:=round j a w hI b (.inLoop c::k) cs ae hb hr;cases e with
   |normal=>
    obtain⟨i,aa,a9⟩:=hq;obtain⟨e₂,a₂,w₂,ab,a5⟩:=ih i aa a₁ w₁ a9;exact⟨e₂,a₂,w₂,ab,.of_steps (StepsIn.trans a3 (.one (fenced_calm hb hr rfl) stepR_inLoop)) a5⟩
   |exit id=>exact⟨_,a₁,w₁,hq,.pass (x:=.inLoop c) rfl (fun _ _=>.inl (by simp)) a3⟩
   |goto l=>exact⟨_,a₁,w₁,hq,.pass (x:=.inLoop c) rfl (fun _ _=>.inl (by simp)) a3⟩
   |ret=>exact⟨_,a₁,w₁,hq,.pass (x:=.inLoop c) rfl (fun _ _=>.inl (by simp)) a3⟩
   |panic ch=>exact⟨_,a₁,w₁,hq,.pass (x:=.inLoop c) rfl (fun _ _=>.inl (by simp)) a3⟩
   |outgrown=>exact⟨_,a₁,w₁,hq,.pass (x:=.inLoop c) rfl (fun _ _=>.inl (by simp)) a3⟩
 obtain⟨e,a',w',hq,a3⟩:=key j a w h₀;exact⟨e,a',w',hq,.of_steps (.one (fenced_calm hb hr rfl) stepR_loop) a3⟩
theorem VS.nil{B:Nat→Prop}{st':St}{a':Act}{w':World}{m':Nat→Lc}{H':HV}(hd:a'.defers=a.defers)(hb:Qa B w w')(hr:RelS m' H' B H0 gl rest st' a'.tmps w'):VS gl B H0 rest a w st' [] a' w':=
 ⟨m',H',[],rfl,by simp_all [IN],(fun p hp=>by simp at hp),hb,hr⟩
def MB(D:List (Nat×Nat)):List (AV×Value):=D.map fun p=>(.yld p.1,.func (.yield p.2) #[] #[])
theorem RelS.more(h:RelS m H B H0 gl rest st a.tmps w){D:List (Nat×Nat)}(hD:∀p∈D,(st.env m).lp p.1=some p.2):RelS m H B H0 gl (MB D++rest) st a.tmps w:=
 ⟨h.heap,h.size,h.slot,fun p hp=>by
  rw[cqu] at hp;rcases hp with hp | hp
  ·unfold MB at hp;rw[List.mem_map] at hp;obtain⟨q,hq,rfl⟩:=hp;exact .yld _ _ (hD q hq)
  ·exact h.rest p hp⟩
theorem VS.then{B:Nat→Prop}{s1 st':St}{d1 d2:List Nat}{a1 a2:Act}{w1 w2:World}{D:List (Nat×Nat)}(hD:D.map (·.1)=d1)(a9:a1.defers=IN D++a.defers)(hb:Qa B w w1)(h2:VS gl B H0 (MB D++rest) a1 w1 st' d2 a2 w2):VS gl B H0 rest a w st' (d2++d1) a2 w2:=by
 obtain⟨m2,H2,D2,e1,e2,e3,e4,e5⟩:=h2;refine⟨m2,H2,D2++D,by simp_all,by simp_all [List.append_assoc,IN],fun p hp=> ?_,hb.trans e4,⟨e5.heap,e5.size,e5.slot,fun p hp=>e5.rest p (List.mem_append_right _ hp)⟩⟩
 rw[cqu] at hp;rcases hp with hp | hp
 ·grind
 ·have:=e5.rest (.yld p.1,.func (.yield p.2) #[] #[]) (List.mem_append_left _ (List.mem_map.2 ⟨p,hp,rfl⟩));obtain⟨l,k1,k2⟩:=this.yld_inv
  simp_all
theorem BQ{o:Option St}{ex:Exit}{st':St}{ds:List Nat}(h:lift o=some (ex,st',ds)):o=some st'∧ex= .normal∧ds=[]:=by
 cases o with
 |none=>cases h
 |some s=>cases h;simp_all
theorem Q27{l:List Oper}{o:Oper}(h:HA l=some o):l[l.length - 1]? =some o∧o.guard=none:=by
 grind [HA]
theorem Qaz(a6:ch.Ok P gl)(am:rd.Ok P gl)(a4:P.follows .mixedOrders=true){l:List Oper}(a3:(Vm l&& (match HA l with | some _=>E9 l | none=>true))=true)(ro:Option Nat)(n id:Nat)(h:RelS m H B H0 gl rest st a.tmps w){st':St}(hk:xregD P gl ch rd l st=some st'):
  (Code.region id l.toArray true).wpIn (FW ro) n P (fun e a' w'=>e= .normal∧VS gl B H0 rest a w st' [] a' w') a w:=by
 rw[cqb] at a3;unfold xregD at hk;split at hk
 ·rename_i o ho;obtain⟨hol,hg⟩:=Q27 ho;have a7:E9 l=true:=by simp_all
  split at hk
  ·rename_i s hs;split at hk
   ·rename_i a8;have ah:∀(a':Act) (w':World) (m':Nat→Lc) (H':HV) (K:Act→World→Prop),a'.defers=a.defers→Qa B w w'→RelS m' H' B H0 gl rest s a'.tmps w'→
      (∀a2 w2,(fun e a' w'=>e=Exit.normal∧VS gl B H0 rest a w st' [] a' w') .normal a2 w2→K a2 w2)→o.wpIn (FW ro) n P a' w' K (fun e a' w'=>e= .normal∧VS gl B H0 rest a w st' [] a' w'):=fun a' w' m' H' K hd hb hr hK=>by
     split at hk
     ·rename_i r ai;cases hk;exact((Px (st:=s.bump 1) (hr.bump 1) a8 (hr.heap.fresh _ (Nat.le_refl _)) (Nat.lt_succ_self _) ai).step (ro:=ro) (n:=n) (Iw ai)) K _ fun a2 w2 m2 H2 aa a9 ag=>hK _ _ ⟨rfl,VS.nil (aa.trans hd) (hb.trans a9) ag⟩
     ·exact BN a6 am hr a8 hk ro n K _ fun a2 w2 m2 H2 aa a9 ag=>hK _ _ ⟨rfl,VS.nil (aa.trans hd) (hb.trans a9) ag⟩
    rcases Q0p hs with⟨F,hs,hF⟩ | ⟨ae,hv,hc,ad,ab,hs⟩
    ·exact F5 (L2 a6) a4 a3.1 a7 hol hg h hs hF ah
    ·exact A8 (Q43 a6 a3.1 ae ad ab) a4 a3.1 a7 hol hg h hs ah
   ·cases hk
  ·cases hk
 ·rcases Q0p hk with⟨F,hk,hF⟩ | ⟨ae,hv,hc,ad,ab,hk⟩
  ·exact Q2k (L2 a6) a4 a3.1 h hk hF fun a' w' m' H' hd hb hr=>⟨rfl,VS.nil hd hb hr⟩
  ·exact Q0m (Q43 a6 a3.1 ae ad ab) a4 a3.1 h hk fun a' w' m' H' hd hb hr=>⟨rfl,VS.nil hd hb hr⟩
end
section
variable {P : Program} {m : Nat → Lc} {H : HV} {B : Nat → Prop} {H0 : HV} {gl : Nat → AV} {rest : List (AV × Value)} {st : St} {a : Act} {w : World} {ch : Qq} {rd : Yb}
theorem Tl{hp:Hp}{id:Nat}{s:LoopState}{pend:Option Code}{n:Nat}{sl:Tr AV}{ps:Array Tmp}{a3 bd:Code}{d:Nat}(h:hp id=some (.loop s pend n sl ps a3 bd d)):(Q6 hp m).lp id=some (m id).g:=by simp[Q6,h]
set_option maxHeartbeats 1000000 in
theorem Q7y(bg:ch.Ok P gl){g:Operand}{ps:Array Tmp}{a3 bd:Code}{ex:Exit}{st':St}{ds:List Nat}(hk:Q1j P gl ch g ps a3 bd st=some (ex,st',ds))(n:Nat):Bh P gl none n (.rangeFunc g ps a3 bd) st ex st' ds:=by
 intro B H0 rest m H a w hr;unfold Q1j at hk;split at hk
 ·rename_i f bo hg;cases hbd:Ru P f with
  |false=>rw[hbd] at hk;cases hk
  |true=>
  rw[hbd] at hk;simp only[cond_true] at hk;have aj:=Ve hbd;split at hk
  ·rename_i rv hp' nx' hc;have ap:=bg _ _ _ _ _ _ _ hc;have b0:=hr.ev g;rw[hg] at b0;obtain⟨us,hu,bz,bk⟩:=b0.fn_inv;refine wpIn_rangeFunc fun fn _=> ?_
   have bb:Yq H (Q6 (updF (lkb st.hp) st.nx (some (.defb true))) (updF m st.nx ⟨w.heap.size,0,0⟩)) (.defb true) ⟨w.heap.size,0,0⟩ (w.alloc (.deferred (some []))):=Xn w _;obtain⟨r1,E1⟩:=hr.heap.newObj (nx':=st.nx+2) (hr.heap.fresh _ (Nat.le_refl _)) (by omega) (by omega) _ _ rfl bb
   have bc:Yq H (Q6 (updF (updF (lkb st.hp) st.nx (some (.defb true))) (st.nx+1) (some (.loop .ready none st.n st.sl ps a3 bd st.nx))) (updF (updF m st.nx ⟨w.heap.size,0,0⟩) (st.nx+1) ⟨(w.alloc (.deferred (some []))).heap.size,0,0⟩)) (.loop .ready none st.n st.sl ps a3 bd st.nx) ⟨(w.alloc (.deferred (some []))).heap.size,0,0⟩
     ((w.alloc (.deferred (some []))).alloc (.loop {state:=.ready,pending:=none,fn:=fn,tmps:=a.tmps,params:=ps,assign:=a3,body:=bd,defers:=w.heap.size})):=by
    refine⟨fn,a.tmps,w.heap.size,Xn _ _,hr.size,fun k=> ?_,?_⟩
    ·have ba:=Mu (m:=updF m st.nx ⟨w.heap.size,0,0⟩) (hp:=updF (lkb st.hp) st.nx (some (.defb true))) (id:=st.nx+1) (b:=.loop .ready none st.n st.sl ps a3 bd st.nx) (l:=⟨(w.alloc (.deferred (some []))).heap.size,0,0⟩) (by rw[Qz _ _ (by omega)];exact hr.heap.fresh _ (by omega))
     exact((hr.slot k).mono (.refl _) E1).mono (.refl _) ba
    ·simp[Q6,Qz (lkb st.hp |>fun f=>updF f st.nx (some (.defb true))) _ (show st.nx≠st.nx+1 by omega),Qn,Qz (updF m st.nx ⟨w.heap.size,0,0⟩) _ (show st.nx≠st.nx+1 by omega)]
   obtain⟨r2,E2⟩:=r1.newObj (id:=st.nx+1) (nx':=st.nx+2) (by rw[Qz _ _ (by omega)];exact hr.heap.fresh _ (by omega)) (by omega) (by omega) _ _ rfl bc
   have c0:(w.alloc (.deferred (some []))).heap.size=w.heap.size+1:=by simp
   have a7:(Q6 (updF (updF (lkb st.hp) st.nx (some (.defb true))) (st.nx+1) (some (.loop .ready none st.n st.sl ps a3 bd st.nx))) (updF (updF m st.nx ⟨w.heap.size,0,0⟩) (st.nx+1) ⟨(w.alloc (.deferred (some []))).heap.size,0,0⟩)).lp (st.nx+1)=some (w.heap.size+1):=by
    simp[Q6,Qn]
   have aa:(Q6 (updF (updF (lkb st.hp) st.nx (some (.defb true))) (st.nx+1) (some (.loop .ready none st.n st.sl ps a3 bd st.nx))) (updF (updF m st.nx ⟨w.heap.size,0,0⟩) (st.nx+1) ⟨(w.alloc (.deferred (some []))).heap.size,0,0⟩)).lp st.nx=some w.heap.size:=by
    have e1:updF (updF (lkb st.hp) st.nx (some (.defb true))) (st.nx+1) (some (.loop .ready none st.n st.sl ps a3 bd st.nx)) st.nx=some (.defb true):=by rw[Qz _ _ (by omega),Qn]
    have e2:updF (updF m st.nx ⟨w.heap.size,0,0⟩) (st.nx+1) ⟨(w.alloc (.deferred (some []))).heap.size,0,0⟩ st.nx=⟨w.heap.size,0,0⟩:=by rw[Qz _ _ (by omega),Qn]
    simp only[Q6,e1,e2]
   have a5:=E1.trans E2;rw[← QV,← QV] at r2 a7 aa a5;have ai:Qa B w ((w.alloc (.deferred (some []))).alloc (.loop {state:=.ready,pending:=none,fn:=fn,tmps:=a.tmps,params:=ps,assign:=a3,body:=bd,defers:=w.heap.size})):=
    ((Qa.refl B w).alloc hr.heap.low _).alloc (fun k hk=>by have:=hr.heap.low k hk;simp;omega) _
   have a6:(Instr.enterLoop fn a.tmps ps a3 bd (FW none).round).run P w= .ok (w.heap.size+1,[{target:=.collected w.heap.size,args:= #[]}]) ((w.alloc (.deferred (some []))).alloc (.loop {state:=.ready,pending:=none,fn:=fn,tmps:=a.tmps,params:=ps,assign:=a3,body:=bd,defers:=w.heap.size})):=run_enterLoop_outer fn a.tmps ps a3 bd;generalize ((w.alloc (.deferred (some []))).alloc (.loop {state:=.ready,pending:=none,fn:=fn,tmps:=a.tmps,params:=ps,assign:=a3,body:=bd,defers:=w.heap.size}))=W2 at r2 ai a6
   generalize (updF (updF m st.nx ⟨w.heap.size,0,0⟩) (st.nx+1) ⟨(w.alloc (.deferred (some []))).heap.size,0,0⟩)=m2 at r2 a7 aa a5;have b3:(resolve a.eval (rangeCall g (w.heap.size+1)) 0).run P W2= .ok {target:=.fn (.func f) us,args:= #[.func (.yield (w.heap.size+1)) #[] #[]]} W2:=by
    have:a.eval g= .func (.func f) #[] us:=hu;show(Deferred.ofValue (a.eval g) (#[Operand.const (.func (.yield (w.heap.size+1)) #[] #[])].map a.eval)).run P W2=_;rw[this];simp[Deferred.ofValue,Act.eval]
   have b1:(invoke (.fn (.func f) us) #[.func (.yield (w.heap.size+1)) #[] #[]]).run P W2= .ok (.enter f (#[.func (.yield (w.heap.size+1)) #[] #[]]++us)) W2:=by
    simp only[invoke];exact aj _ _
   have af:=Ans.calls (he:=aj)<| ap m2 H B H0 ((List.range st.n).map (fun k=>(st.get k,a.tmps.getD k Go.undef))++(MB [(st.nx,w.heap.size),(st.nx+1,w.heap.size+1)]++rest)) _ (#[.func (.yield (w.heap.size+1)) #[] #[]]++us) r2 (by simp;omega) (fun j x v hx hv=>by
     cases j with
     |zero=>
      simp only[List.getElem?_cons_zero,cqf] at hx;subst hx;have:v= .func (.yield (w.heap.size+1)) #[] #[]:=by rw[Array.getElem?_append_left (by simp)] at hv;simpa using hv.symm
      subst this;exact .yld _ _ a7
     |succ j=>
      rw[List.getElem?_cons_succ] at hx;refine(bk j x v hx ?_).mono (.refl _) a5;rw[Array.getElem?_append_right (by simp)] at hv
      simpa using hv) (fun p hp=>by
     rw[cqu,List.mem_map,cqu] at hp;rcases hp with⟨q,_,rfl⟩ | hp | hp
     ·exact(hr.slot _).mono (.refl _) a5
     ·simp only[MB,List.map_cons,List.map_nil,List.mem_cons,List.not_mem_nil,or_false] at hp;rcases hp with rfl | rfl
      ·exact .yld _ _ aa
      ·exact .yld _ _ a7
     ·exact(hr.rest p hp).mono (.refl _) a5)
   refine⟨_,_,_,_,_,_,_,_,a6,b3,fun _ _=>trivial,b1,(fun hh=>by simp[FW] at hh),NZ (af.mono fun e w3 aw=> ?_)⟩
   ·obtain⟨v,m',H',rfl,be,aq,_,a4⟩:=aw;split at hk
    ·rename_i s3 pend n3 b6 ah ad ae d3 ag;split at hk;·cases hk
     ·rename_i ao;have bm:=a4 (.yld (st.nx+1),.func (.yield (w.heap.size+1)) #[] #[]) (by simp[MB])
      obtain⟨l1,q1,q2⟩:=bm.yld_inv;cases q1;have au:(m' (st.nx+1)).g=w.heap.size+1:=by
       rw[Tl ag] at q2;simpa using q2
      have bf:=aq.box _ _ ag;obtain⟨am,t3,ak,ab,b5,b4,bh⟩:=bf;rw[au] at ab;have az:=run_endLoop (P:=P) ab ao;have b2:=aq.putObj ag rfl (b':=.loop .exhausted pend n3 b6 ah ad ae d3) rfl (.loop {state:=.exhausted,pending:=pend,fn:=am,tmps:=t3,params:=ah,assign:=ad,body:=ae,defers:=ak}) (fun C e fr q=>by rw[au,ab] at q;cases q) (fun E' ax=>⟨am,t3,ak,by rw[World.putObj_heap_same (aq.sep _ _ ag).2.1],b5,fun k=>(b4 k).mono (.refl _) ax,ax.lp _ _ bh⟩)
      obtain⟨ar,an,ay⟩:=b2;rw[← QV] at ar an;rw[au] at ar ay;have a9:VS gl B H0 rest a w (st.setHp (pt hp' (st.nx+1) (.loop .exhausted pend n3 b6 ah ad ae d3)) nx') [st.nx] {a with defers:=[{target:=.collected w.heap.size,args:= #[]}]++a.defers} (w3.putObj (w.heap.size+1) (.loop {state:=.exhausted,pending:=pend,fn:=am,tmps:=t3,params:=ah,assign:=ad,body:=ae,defers:=ak})):=by
       refine⟨m',H',[(st.nx,w.heap.size)],rfl,rfl,fun p hp=> ?_,(ai.trans be).trans ay,?_⟩
       ·simp only[List.mem_singleton] at hp;subst hp;have bl:=(a4 (.yld st.nx,.func (.yield w.heap.size) #[] #[]) (by simp[MB])).mono (.refl _) an
        obtain⟨l0,q3,q4⟩:=bl.yld_inv;cases q3;exact q4
       ·have:=RelS.taken (dst:=none) hr rfl (r:=.undef) (v:=Go.undef) ar (.imm _ _ (.undef _)) (fun p hp=>by
         refine(a4 p ?_).mono (.refl _) an;rw[cqu] at hp ⊢;rcases hp with hp | hp
         ·exact .inl hp
         ·exact .inr (List.mem_append_right _ hp))
        exact this
      refine⟨pend,_,az,?_⟩;split at hk;·cases hk;exact⟨rfl,a9⟩
      ·cases hk;exact wpIn_ret ⟨rfl,a9⟩
      ·cases hk;exact wpIn_exit ⟨rfl,a9⟩
      ·cases hk
    ·cases hk
  ·cases hk
 ·cases hk
end
section
variable {F : Fence} {n : Nat} {P : Program} {b : Frame} {a : Act} {k : List Item} {cs : List Frame} {w : World} {Q : Exit → Act → World → Prop}
theorem Dj{c:Code}:step P (lone (b.atR a (.code (.scope c)::k)) cs w)= .next (lone (b.atR a (.code c:: .inScope c::k)) cs w):=
 step_lone_go (by simp[stepG,stepG.exec,Frame.atR])
theorem ON{c:Code}:step P (lone (b.atR a (.inScope c::k)) cs w)= .next (lone (b.atR a k) cs w):=
 step_lone_go (by simp[stepG,stepG.exec,Frame.atR])
theorem Fo{c:Code}(h:c.wpIn F n P (Exit.noGoto Q) a w):(Code.scope c).wpIn F n P Q a w:=by
 intro b k cs aa hb hr;have h0:(lone (b.atR a (.code (.scope c)::k)) cs w).fenced P F:=fenced_calm hb hr rfl;obtain⟨e,a₁,w₁,hq,a3⟩:=h b (.inScope c::k) cs aa hb hr;cases e with
 |normal=>exact⟨.normal,a₁,w₁,hq,.head h0 Dj (StepsIn.trans a3 (.one (fenced_calm hb hr rfl) ON))⟩
 |exit id=>
  have hx:exitTo id (.inScope c::k)=exitTo id k:=by simp[exitTo]
  exact⟨.exit id,a₁,w₁,hq,fun k' hk=>.head h0 Dj (a3.1 k' (by rw[hx];exact hk)),
   fun a9 hk=>let⟨k₁,h1,h2⟩:=a3.2 a9 (by rw[hx];exact hk);⟨k₁,h1,.head h0 Dj h2⟩⟩
 |goto l=>exact hq.elim
 |ret=>exact⟨_,a₁,w₁,hq,.of_steps (.one h0 Dj) a3⟩
 |panic ch=>exact⟨_,a₁,w₁,hq,.of_steps (.one h0 Dj) a3⟩
 |outgrown=>exact⟨_,a₁,w₁,hq,.of_steps (.one h0 Dj) a3⟩
end
section
variable {P : Program} {gl : Nat → AV} {ch : Qq} {rd : Yb}
theorem Oc(aa:ch.Ok P gl)(ah:rd.Ok P gl)(ad:P.follows .mixedOrders=true)(a8:Bool)(ro:Option Nat)(ae:a8=true→ro=none)(n:Nat):∀(K k:Nat),k≤K→∀(c:Code) (st:St) (ex:Exit) (st':St) (ds:List Nat),QN c=true→V8 P gl ch rd a8 k c st=some (ex,st',ds)→Bh P gl ro n c st ex st' ds
 |_,0,_,_,_,_,_,_,_,h=>by cases h
 |0,k+1,hK,_,_,_,_,_,_,_=>by omega
 |K+1,k+1,hK,c,st,ex,st',ds,hok,h=>by
  have aj:=Oc aa ah ad a8 ro ae n K;have ih:=aj k (by omega)
  intro B H0 rest m H a w hr;cases c with
  |skip=>cases h;exact wpIn_skip ⟨rfl,.nil rfl (Qa.refl _ _) hr⟩
  |label l=>cases h;exact wpIn_label ⟨rfl,.nil rfl (Qa.refl _ _) hr⟩
  |exit id=>cases h;exact wpIn_exit ⟨rfl,.nil rfl (Qa.refl _ _) hr⟩
  |ret=>cases h;exact wpIn_ret ⟨rfl,.nil rfl (Qa.refl _ _) hr⟩
  |region id ops draw=>
   simp only[V8] at h;cases draw with
   |true=>
    simp only[cond_true] at h;obtain⟨hs,rfl,rfl⟩:=BQ h;simp only[QN,Bool.not_true,Bool.false_or] at hok;have:=Qaz aa ah ad hok ro n id hr hs;simpa using this
   |false=>
    simp only[cond_false] at h;obtain⟨hs,rfl,rfl⟩:=BQ h;refine wpIn_region ?_;have:=Q4o aa ah (all:=ops.toList) (ro:=ro) (n:=n) (d0:=a.defers) (w0:=w) (Q:=fun e a' w'=>e= .normal∧VS gl B H0 rest a w st' [] a' w') (fun a' w' m' H' hd hb ag=>⟨rfl,.nil hd hb ag⟩) [] ops.toList st a w m H rfl hs rfl (Qa.refl _ _) hr
    simpa[List.range_eq_range'] using this
  |seq x y=>
   simp only[V8] at h;simp only[QN,cqb] at hok;split at h
   ·rename_i s d hs;split at h
    ·rename_i e2 s2 d2 ai;cases h;refine wpIn_seq (wpIn_mono (ih x st .normal s d hok.1 hs B H0 rest m H a w hr) fun e a' w' hq=> ?_)
     obtain⟨rfl,m',H',D,hD,hd,ab,hb,ag⟩:=hq;refine wpIn_mono (ih y s ex st' d2 hok.2 ai B H0 _ m' H' a' w' (ag.more ab)) fun e a2 w2 hq=> ?_
     obtain⟨rfl,hq⟩:=hq;exact⟨rfl,VS.then (s1:=s) hD hd hb hq⟩
    ·cases h
   ·rename_i a6;refine wpIn_seq (wpIn_mono (ih x st ex st' ds hok.1 h B H0 rest m H a w hr) fun e a' w' hq=> ?_)
    obtain⟨rfl,hq⟩:=hq;cases e with
    |normal=>exact absurd h (a6 _ _)
    |_=>exact⟨rfl,hq⟩
  |cond c x y=>
   simp only[V8] at h;simp only[QN,cqb] at hok;split at h
   ·rename_i t ht;have hv:=hr.ev c;rw[ht] at hv;cases t with
    |true=>exact wpIn_cond hv.bool_inv (ih x st ex st' ds hok.1 h B H0 rest m H a w hr)
    |false=>exact wpIn_cond hv.bool_inv (ih y st ex st' ds hok.2 h B H0 rest m H a w hr)
   ·cases h
  |block id c=>
   simp only[V8] at h;simp only[QN] at hok;split at h
   ·rename_i i s d hs;refine wpIn_block (wpIn_mono (ih c st (.exit i) s d hok hs B H0 rest m H a w hr) fun e a' w' hq=> ?_)
    obtain⟨rfl,hq⟩:=hq;split at h
    ·rename_i hi;cases h;simp only[Exit.inBlock,hi,if_true];exact⟨trivial,hq⟩
    ·rename_i hi;cases h;simp only[Exit.inBlock,hi,if_false];exact⟨trivial,hq⟩
   ·rename_i a6;refine wpIn_block (wpIn_mono (ih c st ex st' ds hok h B H0 rest m H a w hr) fun e a' w' hq=> ?_)
    obtain⟨rfl,hq⟩:=hq;cases e with
    |exit i=>exact absurd h (a6 _ _ _)
    |_=>exact⟨rfl,hq⟩
  |loop c=>
   have ax:=hok;simp only[QN] at hok;refine Sy (j:=k+1) (fun j a' w'=>j≤k+1∧∃a4 m1 H1 D a9,V8 P gl ch rd a8 j (.loop c) a4=some (ex,st',a9)∧a9++D.map (·.1)=ds∧a'.defers=IN D++a.defers∧(∀p∈D,(a4.env m1).lp p.1=some p.2)∧Qa B w w'∧RelS m1 H1 B H0 gl rest a4 a'.tmps w') (fun j a1 w1 hI=> ?_) ⟨Nat.le_refl _,st,m,H,[],ds,h,by simp,by simp[IN],by simp,Qa.refl _ _,hr⟩
   obtain⟨hj,a4,m1,H1,D,a9,hx,hD,am,ab,ak,ao⟩:=hI;cases j with
   |zero=>cases hx
   |succ j=>
    simp only[V8] at hx;split at hx
    ·rename_i s d hs;split at hx
     ·rename_i e2 s2 d2 ai;cases hx;refine wpIn_mono (aj j (by omega) c a4 .normal s d hok hs B H0 _ m1 H1 a1 w1 (ao.more ab)) fun e a2 w2 hq=> ?_
      obtain⟨rfl,hq⟩:=hq;obtain⟨m2,H2,D2,e1,e2,e3,e4,e5⟩:=VS.then (a:=a) (s1:=a4) rfl am ak hq;exact⟨j,Nat.lt_succ_self _,by omega,s,m2,H2,D2,d2,ai,by rw[e1,← List.append_assoc];exact hD,e2,e3,e4,e5⟩
     ·cases hx
    ·rename_i a6;refine wpIn_mono (aj j (by omega) c a4 ex st' a9 hok hx B H0 _ m1 H1 a1 w1 (ao.more ab)) fun e a2 w2 hq=> ?_
     obtain⟨rfl,hq⟩:=hq;have an:=VS.then (a:=a) (s1:=a4) rfl am ak hq;rw[hD] at an;cases e with
     |normal=>exact absurd hx (a6 _ _)
     |_=>exact⟨rfl,an⟩
  |rangeFunc g ps azz bd=>
   cases a8 with
   |true=>
    have:=ae rfl;subst this;exact Q7y aa h n B H0 rest m H a w hr
   |false=>cases h
  |scope c=>
   simp only[V8] at h;simp only[QN] at hok;split at h;·cases h
   ·rename_i a6;refine Fo (wpIn_mono (ih c st ex st' ds hok h B H0 rest m H a w hr) fun e a' w' hq=> ?_)
    obtain⟨rfl,hq⟩:=hq;cases e with
    |goto l=>exact absurd h (a6 _ _ _)
    |_=>exact⟨rfl,hq⟩
  |_=>cases h
theorem MI(a6:ch.Ok P gl)(a8:rd.Ok P gl)(a4:P.follows .mixedOrders=true)(a3:Bool)(ro:Option Nat)(a5:a3=true→ro=none)(n k:Nat)(c:Code)(st:St)(ex:Exit)(st':St)(ds:List Nat)(a7:QN c=true)(h:V8 P gl ch rd a3 k c st=some (ex,st',ds)):Bh P gl ro n c st ex st' ds:=
 Oc a6 a8 a4 a3 ro a5 n k k (Nat.le_refl _) c st ex st' ds a7 h
end
def Tt:List Nat→List AV→St→Option St
 | [],[],st=>some st
 |p::ps,x::xs,st=>if Z2 (some p) st.n then Tt ps xs (st.putO (some p) x) else none
 |_,_,_=>none
def ED(ex:Exit):Option (Option Code):=match ex with
 | .normal=>some none
 | .ret=>some (some .ret)
 | .exit i=>some (some (.exit i))
 |_=>none
def Q1k(P:Program)(gl:Nat→AV)(fl:Nat)(ch:Qq)(rd:Yb):Yb:=fun id args hp nx=>
 match lkb hp id with
 |some (.loop _ _ n sl ps azz bd _)=>bif QN azz&&QN bd then(match Tt ps.toList args ⟨n,sl,hp,nx⟩ with
  |some s0=>match V8 P gl ch rd false fl azz s0 with
   |some (.normal,s1,[])=>match lkb s1.hp id with
    |some (.loop .ready pend1 n1 sl1 ps1 as1 bd1 d1)=>match V8 P gl ch rd false fl bd (s1.setHp (pt s1.hp id (.loop .busy pend1 n1 sl1 ps1 as1 bd1 d1)) s1.nx) with
     |some (ex,s2,[])=>match lkb s2.hp id with
      |some (.loop _ _ n2 sl2 ps2 as2 bd2 d2)=>match ED ex with
       |some j=>some (.bool j.isNone,pt s2.hp id (.loop (if j.isNone then .ready else .done) j n2 sl2 ps2 as2 bd2 d2),s2.nx)
       |none=>none
      |_=>none
     |_=>none
    |_=>none
   |_=>none
  |none=>none) else none
 |_=>none
section
variable {P : Program} {m : Nat → Lc} {H : HV} {B : Nat → Prop} {H0 : HV} {gl : Nat → AV} {rest : List (AV × Value)} {st : St} {a : Act} {w : World} {ch : Qq} {rd : Yb}
theorem A6:∀(ps:List Nat) (xs:List AV) (vs:List Value) (st:St) (tmps:Array Value) (s0:St),RelS m H B H0 gl rest st tmps w→Tt ps xs st=some s0→xs.length=vs.length→(∀(j:Nat) (x:AV) (v:Value),xs[j]? =some x→vs[j]? =some v→RV H (st.env m) x v)→
  ps.length=vs.length∧RelS m H B H0 gl rest s0 ((ps.zip vs).foldl (fun tmps (q:Nat×Value)=>tmps.setIfInBounds q.1 q.2) tmps) w∧s0.hp=st.hp∧s0.nx=st.nx
 | [],[],vs,st,tmps,s0,h,hk,hl,_=>by
  have:vs=[]:=cqn (by simpa using hl.symm)
  subst this;cases hk;exact⟨rfl,h,rfl,rfl⟩
 |p::ps,x::xs,vs,st,tmps,s0,h,hk,hl,hv=>by
  cases vs with
  |nil=>simp at hl
  |cons v vs=>
   simp only[Tt] at hk;split at hk
   ·rename_i hd;have h1:=RelS.putO (a:= {tmps:=tmps,defers:=[]}) (dst:=some p) h hd (hv 0 x v rfl rfl);obtain⟨e1,e2,e3,e4⟩:=A6 ps xs vs (st.putO (some p) x) _ s0 h1 hk (by simpa using hl) (fun j y u hy hu=>hv (j+1) y u (by simpa using hy) (by simpa using hu))
    exact⟨by simp[e1],e2,by rw[e3];rfl,by rw[e4];rfl⟩
   ·cases hk
 | [],_::_,_,_,_,_,_,hk,_,_=>by cases hk
 |_::_,[],_,_,_,_,_,hk,_,_=>by cases hk
theorem Q3j{E:Env}{id l:Nat}{v:AV×Value}(hv:v=(.yld id,.func (.yield l) #[] #[]))(h:RV H E v.1 v.2):E.lp id=some l:=by
 subst hv;obtain⟨l',q1,q2⟩:=h.yld_inv;cases q1;exact q2
set_option maxHeartbeats 1000000 in
theorem Q7z(bb:ch.Ok P gl)(bl:rd.Ok P gl)(ar:P.follows .mixedOrders=true)(fl:Nat):Yb.Ok P gl (Q1k P gl fl ch rd):=by
 intro id args hp nx r hp' nx' hk m H B H0 rest w vs l hh b4 hl b0 b6;unfold Q1k at hk;split at hk
 ·rename_i s pend n sl ps aw bd d bc;cases hok:(QN aw&&QN bd) with
  |false=>rw[hok] at hk;cases hk
  |true=>
   rw[hok] at hk;simp only[cond_true] at hk;rw[cqb] at hok;split at hk
   ·rename_i s0 c7;split at hk
    ·rename_i s1 c8;split at hk
     ·rename_i a6 n1 br ap ak am d1 af;split at hk
      ·rename_i ex s2 c9;split at hk
       ·rename_i cr ce n2 aq ad a8 a9 d2 ag;split at hk
        ·rename_i j hj;cases hk;have c3:(m id).g=l:=by rw[Tl bc] at b4;simpa using b4
         obtain⟨fn,tmps,dg,au,cd,ca,hd⟩:=hh.box _ _ bc;rw[c3] at au;have c6:RelS m H B H0 gl ((.yld id,.func (.yield l) #[] #[])::rest) ⟨n,sl,hp,nx⟩ tmps w:=
          ⟨hh,cd,ca,fun p hp=>by
           rw[List.mem_cons] at hp;rcases hp with rfl | hp
           ·exact .yld _ _ b4
           ·exact b6 p hp⟩
         obtain⟨c4,bk,e1,e2⟩:=A6 ps.toList args vs.toList _ tmps s0 c6 c7 (by simpa using hl) (fun j x v hx hv=>b0 j x v hx (by simpa using hv))
         have b1:(ps.zip vs).foldl (fun tmps (q:Nat×Value)=>tmps.setIfInBounds q.1 q.2) tmps=(ps.toList.zip vs.toList).foldl (fun tmps (q:Nat×Value)=>tmps.setIfInBounds q.1 q.2) tmps:=by
          rw[← Array.foldl_toList,Array.toList_zip]
         rw[← b1] at bk;refine⟨fn,_,aw,bd,run_yield au (by simpa using c4.symm),fun ro k=> ?_⟩
         refine roundIn_of_wpIn trivial ?_;have hA:=MI bb bl ar false (some l) (by simp) k fl aw s0 .normal s1 [] hok.1 c8 B H0 _ m H {tmps:=(ps.zip vs).foldl (fun tmps (q:Nat×Value)=>tmps.setIfInBounds q.1 q.2) tmps,defers:=[]} w bk
         refine wpIn_mono hA fun e a1 w1 hq=> ?_
         obtain⟨rfl,m1,H1,D1,cm, -, -,bz,a4⟩:=hq;have bg:=Q3j rfl (a4.rest (.yld id,.func (.yield l) #[] #[]) (by simp))
         have be:(m1 id).g=l:=by
          have:=Tl (m:=m1) af;rw[show(Q6 (lkb s1.hp) m1).lp id=some l from bg] at this;simpa using this.symm
         obtain⟨ay,ae,ax,aa,bo,bm,c1⟩:=a4.heap.box _ _ af;obtain⟨b2,az,b9⟩:=a4.heap.putObj af rfl (b':=.loop .busy a6 n1 br ap ak am d1) rfl (.loop {state:=.busy,pending:=a6,fn:=ay,tmps:=ae,params:=ap,assign:=ak,body:=am,defers:=ax}) (fun C e fr q=>by rw[aa] at q;cases q) (fun E' ah=>⟨ay,ae,ax,by rw[World.putObj_heap_same (a4.heap.sep _ _ af).2.1],bo,fun k=>(bm k).mono (.refl _) ah,ah.lp _ _ c1⟩)
         rw[be] at aa b2 b9;rw[← QV] at b2 az;refine⟨_,run_beginRound aa rfl,?_⟩;have b5:RelS m1 H1 B H0 gl ((.yld id,.func (.yield l) #[] #[])::rest) (s1.setHp (pt s1.hp id (.loop .busy a6 n1 br ap ak am d1)) s1.nx) a1.tmps (w1.putObj l (.loop {state:=.busy,pending:=a6,fn:=ay,tmps:=ae,params:=ap,assign:=ak,body:=am,defers:=ax})):=
          ⟨b2,a4.size,fun k=>(a4.slot k).mono (.refl _) az,fun p hp=>(a4.rest p hp).mono (.refl _) az⟩
         have hB:=MI bb bl ar false (some l) (by simp) k fl bd _ ex s2 [] hok.2 c9 B H0 _ m1 H1 a1 _ b5
         refine wpIn_mono hB fun e a3 w3 hq=> ?_
         obtain⟨rfl,m3,H3,D3,cn, -, -,c0,a5⟩:=hq;have bh:=Q3j rfl (a5.rest (.yld id,.func (.yield l) #[] #[]) (by simp))
         have bf:(m3 id).g=l:=by
          have:=Tl (m:=m3) ag;rw[show(Q6 (lkb s2.hp) m3).lp id=some l from bh] at this;simpa using this.symm
         obtain⟨ao,a7,an,ab,bp,bn,c2⟩:=a5.heap.box _ _ ag;obtain⟨b3,b8,ba⟩:=a5.heap.putObj ag rfl (b':=.loop (if j.isNone then .ready else .done) j n2 aq ad a8 a9 d2) rfl (.loop {state:=if j.isNone then .ready else .done,pending:=j,fn:=ao,tmps:=a7,params:=ad,assign:=a8,body:=a9,defers:=an}) (fun C e fr q=>by rw[ab] at q;cases q) (fun E' ah=>⟨ao,a7,an,by rw[World.putObj_heap_same (a5.heap.sep _ _ ag).2.1],bp,fun k=>(bn k).mono (.refl _) ah,ah.lp _ _ c2⟩)
         rw[bf] at ab b3 ba;rw[← QV] at b3 b8;have ai:=run_endRound (P:=P) j ab;have aj:∃v m' H',Ending.returned (.bool j.isNone)= .returned v∧Qa B w (w3.putObj l (.loop {state:=if j.isNone then .ready else .done,pending:=j,fn:=ao,tmps:=a7,params:=ad,assign:=a8,body:=a9,defers:=an}))∧RelH m' H' B H0 gl (lkb (pt s2.hp id (.loop (if j.isNone then .ready else .done) j n2 aq ad a8 a9 d2))) s2.nx (w3.putObj l (.loop {state:=if j.isNone then .ready else .done,pending:=j,fn:=ao,tmps:=a7,params:=ad,assign:=a8,body:=a9,defers:=an}))∧RV H' (Q6 (lkb (pt s2.hp id (.loop (if j.isNone then .ready else .done) j n2 aq ad a8 a9 d2))) m') (.bool j.isNone) v∧∀p∈rest,RV H' (Q6 (lkb (pt s2.hp id (.loop (if j.isNone then .ready else .done) j n2 aq ad a8 a9 d2))) m') p.1 p.2:=
          ⟨.bool j.isNone,m3,H3,rfl,((bz.trans b9).trans c0).trans ba,b3,.imm _ _ (.bool _),fun p hp=>(a5.rest p (List.mem_cons_of_mem _ hp)).mono (.refl _) b8⟩
         cases e with
         |normal=>cases hj;exact⟨_,_,ai,aj⟩
         |ret=>cases hj;exact⟨_,_,ai,aj⟩
         |exit i=>cases hj;exact⟨_,_,ai,aj⟩
         |_=>cases hj
        ·cases hk
       ·cases hk
      ·cases hk
     ·cases hk
    ·cases hk
   ·cases hk
 ·cases hk
end
def Kw:Nat→List AV→Tr AV
 |_,[]=>.nil
 |k,x::xs=>pt (Kw (k+1) xs) k x
theorem Nd:∀(xs:List AV) (k j:Nat),lk .undef (Kw k xs) j=if k≤j then(xs[j - k]?).getD .undef else .undef
 | [],k,j=>by
  have:lk .undef (Kw k []) j= .undef:=by unfold lk Kw;cases path j<;>rfl
  rw[this];simp
 |x::xs,k,j=>by
  simp only[Kw];rw[UX];by_cases h:k=j;·subst h;simp
  ·rw[if_neg h,Nd xs (k+1) j];by_cases h':k≤j
   ·rw[if_pos h',if_pos (by omega)]
    have:j - k=(j - (k+1))+1:=by omega
    rw[this,List.getElem?_cons_succ]
   ·rw[if_neg h',if_neg (by omega)]
def resAV(P:Program)(st:St):ResultVar→Option AV
 | .tmp t=>some (st.get t)
 | .cell a t=>CL P t (st.get a) (lkb st.hp)
def Il(P:Program)(st:St):List ResultVar→Option (List AV)
 | []=>some []
 |x::r=>match resAV P st x with
  |some v=>match Il P st r with
   |some vs=>some (v::vs)
   |none=>none
  |none=>none
def LL(P:Program)(st:St)(l:List ResultVar):Option AV:=
 match Il P st l with
 |some [v]=>some v
 |some vs=>some (.tup vs)
 |none=>none
section
variable {P : Program} {m : Nat → Lc} {H : HV} {B : Nat → Prop} {H0 : HV} {gl : Nat → AV} {rest : List (AV × Value)} {st : St} {tmps : Array Value} {w : World}
theorem res_one(h:RelS m H B H0 gl rest st tmps w){x:ResultVar}{r:AV}(hr:resAV P st x=some r):
  ∃v,(match x with | .tmp t=>pure (tmps.getD t Go.undef) | .cell a t=>do loadVar t (← asAddr (tmps.getD a Go.undef)):Sem Value).run P w= .ok v w∧RV H (st.env m) r v:=by
 cases x with
 |tmp t=>cases hr;exact⟨_,rfl,h.slot t⟩
 |cell a t=>
  simp only[resAV] at hr;obtain⟨v,h1,h2⟩:=Q1f (P:=P) h.heap (h.slot a) hr;refine⟨v,?_,h2⟩;show(do loadVar t (← asAddr (tmps.getD a Go.undef)):Sem Value).run P w=_
  generalize tmps.getD a Go.undef=u at h1 ⊢;simp only[Instr.loadAt,Instr.sureAddr,asAddr] at h1 ⊢;cases u<;>simp at h1 ⊢
  rename_i ad;cases ad<;>simp at h1 ⊢
  exact h1
theorem Q0o(h:RelS m H B H0 gl rest st tmps w):∀(l:List ResultVar) (a3:List AV),Il P st l=some a3→
  ∃vs:List Value,(l.mapM (fun x:ResultVar=>(match x with | .tmp t=>pure (tmps.getD t Go.undef) | .cell a t=>do loadVar t (← asAddr (tmps.getD a Go.undef)):Sem Value))).run P w= .ok vs w∧a3.length=vs.length∧∀(j:Nat) (c:AV) (v:Value),a3[j]? =some c→vs[j]? =some v→RV H (st.env m) c v
 | [],a3,hk=>by
  simp only[Il,cqf] at hk;subst hk;exact⟨[],by simp,rfl,fun j c v hj=>by simp at hj⟩
 |x::l,a3,hk=>by
  simp only[Il] at hk;split at hk
  ·rename_i v hv;split at hk
   ·rename_i us a6;cases hk;obtain⟨u,h1,h2⟩:=res_one h hv;obtain⟨vs,h3,h4,h5⟩:=Q0o h l us a6;refine⟨u::vs,?_,by simp[h4],fun j c v hj hv=> ?_⟩
    ·simp only[List.mapM_cons,cqv];rw[h1];simp only[cqw,h3,Sem.run_pure]
    ·cases j with
     |zero=>simp only[List.getElem?_cons_zero,cqf] at hj hv;subst hj;subst hv;exact h2
     |succ j=>exact h5 j c v (by simpa using hj) (by simpa using hv)
   ·cases hk
  ·cases hk
theorem MD(h:RelS m H B H0 gl rest st tmps w){fn:Func}{r:AV}(hr:LL P st fn.results.toList=some r):∃v,(results fn tmps).run P w= .ok v w∧RV H (st.env m) r v:=by
 unfold LL at hr;obtain⟨a4,ha⟩:∃a4,Il P st fn.results.toList=some a4:=by
  cases hx:Il P st fn.results.toList with
  |none=>rw[hx] at hr;cases hr
  |some a4=>exact⟨a4,rfl⟩
 rw[ha] at hr;obtain⟨vs,a9,hl,a3⟩:=Q0o h _ _ ha;have a8:(results fn tmps).run P w= .ok (if h:vs.toArray.size=1 then vs.toArray[0] else .tuple vs.toArray) w:=by
  unfold results;have a7:(fn.results.mapM (fun x:ResultVar=>(match x with | .tmp t=>pure (tmps.getD t Go.undef) | .cell a t=>do loadVar t (← asAddr (tmps.getD a Go.undef)):Sem Value))).run P w= .ok vs.toArray w:=by
   rw[← Array.toArray_toList (xs:=fn.results),List.mapM_toArray,Sem.run_map,a9];rfl
  rw[cqv];refine Eq.trans (congrArg (fun x=>Result.andThen x _) a7) ?_
  rfl
 refine⟨_,a8,?_⟩
 match a4,vs,hl,hr,a3 with
 | [],vs,hl,hr,a3=>
  have:vs=[]:=cqn (by simpa using hl.symm)
  subst this;cases hr;simp only[List.size_toArray,List.length_nil];exact .tup [] #[] rfl (fun j c v hj=>by simp at hj)
 | [x],[v],hl,hr,a3=>
  cases hr;simpa using a3 0 _ _ rfl rfl
 |x::y::l,vs,hl,hr,a3=>
  cases hr;rw[dif_neg (by simp at hl ⊢;omega)]
  exact .tup _ _ (by simpa using hl) fun j c v hj hv=>a3 j c v hj (by simpa using hv)
end
def shut:List Nat→Tr Box→Option (Tr Box)
 | [],hp=>some hp
 |id::ds,hp=>match lkb hp id with
  |some (.defb true)=>shut ds (pt hp id (.defb false))
  |_=>none
section
variable {P : Program} {m : Nat → Lc} {H : HV} {B : Nat → Prop} {H0 : HV} {gl : Nat → AV}
theorem Q3i{hp:Hp}{id:Nat}{o:Bool}(h:hp id=some (.defb o)):(Q6 hp m).lp id=some (m id).g:=by simp[Q6,h]
theorem Q3y{F:Fence}{n:Nat}{fn:Func}{tmps:Array Value}{R:Ending→World→Prop}{nx:Nat}{hp':Tr Box}:∀(D:List (Nat×Nat)) (hp:Tr Box) (w:World),RelH m H B H0 gl (lkb hp) nx w→(∀p∈D,(Q6 (lkb hp) m).lp p.1=some p.2)→shut (D.map (·.1)) hp=some hp'→
  (∀w',RelH m H B H0 gl (lkb hp') nx w'→Env.le (Q6 (lkb hp) m) (Q6 (lkb hp') m)→Qa B w w'→∃v,(results fn tmps).run P w'= .ok v w'∧R (.returned v) w')→LeavesInM F n P fn tmps R (IN D) .returning w
 | [],hp,w,h,_,hk,hQ=>by
  cases hk;exact hQ w h (.refl _) (Qa.refl _ _)
 | (id,l)::D,hp,w,h,hD,hk,hQ=>by
  simp only[List.map_cons,shut] at hk;split at hk
  ·rename_i a4;have hl:(m id).g=l:=by
    have:=hD (id,l) (by simp)
    rw[Q3i a4] at this;simpa using this
   have a3:w.heap[(m id).g]? =some (.deferred (some [])):=h.box _ _ a4;obtain⟨a6,a5,a7⟩:=h.putObj a4 rfl (b':=.defb false) rfl (.deferred none) (fun C e fr q=>by rw[a3] at q;cases q) (fun E' ab=>World.putObj_heap_same (h.sep _ _ a4).2.1)
   rw[← QV] at a6 a5;rw[hl] at a3 a6 a7;refine⟨by simp,.inl ⟨l,_,rfl,run_takeDeferred a3,?_⟩⟩
   exact Q3y D _ _ a6 (fun p hp=>a5.lp _ _ (hD p (List.mem_cons_of_mem _ hp))) hk (fun w' h3 a8 a9=>hQ w' h3 (a5.trans a8) (a7.trans a9))
  ·cases hk
end
def WA(ex:Exit):Bool:=match ex with
 | .normal | .ret=>true
 |_=>false
def xfun(P:Program)(gl:Nat→AV)(gd:Nat→Bool)(fl:Nat)(ch:Qq)(rd:Yb):Qq:=fun f args hp nx=>
 bif gd f then(match P.funcs[f]? with
  |some fn=>match fn.body with
   |some c=>bif Nat.ble args.length fn.ntmps then(match V8 P gl ch rd true fl c ⟨fn.ntmps,Kw 0 args,hp,nx⟩ with
    |some (ex,s,ds)=>bif WA ex then(match shut ds s.hp with
     |some hp'=>match LL P (s.setHp hp' s.nx) fn.results.toList with
      |some r=>some (r,hp',s.nx)
      |none=>none
     |none=>none) else none
    |none=>none) else none
   |none=>none
  |none=>none) else none
def okFn(P:Program)(f:Nat):Bool:=
 match P.funcs[f]? with
 |some fn=>(fn.name != "runtime.NumGoroutine")&&match fn.body with
  |some c=>QN c
  |none=>false
 |none=>false
structure UA (P:Program) (gd:Nat→Bool):Prop where
 mix:P.follows .mixedOrders=true
 fn:∀f,gd f=true→okFn P f=true
theorem xfun_ok{P:Program}{gl:Nat→AV}{gd:Nat→Bool}{fl:Nat}{ch:Qq}{rd:Yb}(hp:UA P gd)(aj:ch.Ok P gl)(ap:rd.Ok P gl):Qq.Ok P gl (xfun P gl gd fl ch rd):=by
 intro f args an nx r hp' nx' hk;unfold xfun at hk;cases hg:gd f with
 |false=>rw[hg] at hk;cases hk
 |true=>
  rw[hg] at hk;simp only[cond_true] at hk;have a3:=hp.fn f hg;unfold okFn at a3;split at hk
  ·rename_i fn hf;rw[hf] at a3;simp only[cqb,bne_iff_ne] at a3;obtain⟨a8,a3⟩:=a3;split at hk
   ·rename_i c hb;rw[hb] at a3;simp only at a3;cases a4:Nat.ble args.length fn.ntmps with
    |false=>rw[a4] at hk;cases hk
    |true=>
     rw[a4] at hk;simp only[cond_true] at hk;have a4:=cqe a4;split at hk
     ·rename_i ex s ds hx;cases hex:WA ex with
      |false=>rw[hex] at hk;cases hk
      |true=>
      rw[hex] at hk;simp only[cond_true] at hk;split at hk
      ·rename_i b0 aa;split at hk
       ·rename_i r' ao;cases hk;intro m H B H0 rest w vs hh hl a6 a9;refine .inl ⟨Gu hf (by simpa using a8) (by rw[hb];rfl),?_⟩
        have h0:RelS m H B H0 gl rest ⟨fn.ntmps,Kw 0 args,an,nx⟩ (vs++Array.replicate (fn.ntmps - vs.size) Go.undef) w:=by
         refine⟨hh,by simp;omega,fun k=> ?_,a9⟩
         show RV H _ (lk .undef (Kw 0 args) k) _;rw[Nd,if_pos (Nat.zero_le _),Nat.sub_zero];cases hx:args[k]? with
         |none=>exact .imm _ _ (.undef _)
         |some x=>
          have hk:k<vs.size:=by rw[← hl];exact(cqd.1 hx).1
          have hv:(vs++Array.replicate (fn.ntmps - vs.size) Go.undef).getD k Go.undef=vs[k]:=by
           rw[cqj,Array.getElem?_append_left hk,cqh hk];rfl
          rw[hv];exact a6 k x _ hx (cqh hk)
        have a7:=MI aj ap hp.mix true none (fun _=>rfl) 0 fl c _ ex s ds a3 hx B H0 rest m H {tmps:=vs++Array.replicate (fn.ntmps - vs.size) Go.undef,defers:=[]} w h0
        refine CallsIn.calls (F:=FW none) (callsIn_of_wp_marks hf hb trivial (wpIn_mono a7 fun e a' w' hq=> ?_)) (fun k d hd=>by simp[FW] at hd)
        obtain⟨rfl,m',H',D,hD,hd,am,ai,a5⟩:=hq;subst hD;have ad:LeavesInM (FW none) 0 P fn a'.tmps (fun e w'=>∃v m' H',e= .returned v∧Qa B w w'∧RelH m' H' B H0 gl (lkb hp') s.nx w'∧RV H' (Q6 (lkb hp') m') r v∧∀p∈rest,RV H' (Q6 (lkb hp') m') p.1 p.2) a'.defers .returning w':=by
         rw[hd,List.append_nil];refine Q3y D _ w' a5.heap am aa fun w3 h3 ab ah=> ?_
         have ae:RelS m' H' B H0 gl rest (s.setHp hp' s.nx) a'.tmps w3:=⟨h3,a5.size,fun k=>(a5.slot k).mono (.refl _) ab,fun p hp=>(a5.rest p hp).mono (.refl _) ab⟩
         obtain⟨v,hv,aq⟩:=MD ae ao;exact⟨v,hv,v,m',H',rfl,ai.trans ah,h3,aq,ae.rest⟩
        cases e with
        |normal=>exact ad
        |ret=>exact ad
        |_=>cases hex
       ·cases hk
      ·cases hk
     ·cases hk
   ·cases hk
  ·cases hk
def HV.full(w:World):HV:=fun b o=>w.cell? ⟨b,o,none⟩
theorem Q8v(w:World):HV.sat (HV.full w) w:=fun _ _ _ h=>h
def RelL(H:HV)(a3:List AV)(cs:List Value):Prop:=a3.length=cs.length∧∀(j:Nat) (a:AV) (v:Value),a3[j]? =some a→cs[j]? =some v→a.one=true∧RelI H a v
theorem RelL.nil{H:HV}:RelL H [] []:=⟨rfl,fun j a v h=>by simp at h⟩
theorem RelL.one{H:HV}{a:AV}{v:Value}(h1:a.one=true)(h:RelI H a v):RelL H [a] [v]:=⟨rfl,fun j x u hx hu=>by
 cases j with
 |zero=>simp at hx hu;subst hx;subst hu;exact⟨h1,h⟩
 |succ j=>simp at hx⟩
theorem RelL.append{H:HV}{a b:List AV}{c d:List Value}(h:RelL H a c)(k:RelL H b d):RelL H (a++b) (c++d):=by
 refine⟨by simp[h.1,k.1],fun j x u hx hu=> ?_⟩
 rw[List.getElem?_append] at hx hu;split at hx;·rename_i hj;rw[if_pos (by rw[← h.1];exact hj)] at hu;exact h.2 j x u hx hu
 ·rename_i hj;rw[if_neg (by rw[← h.1];exact hj),← h.1] at hu;exact k.2 _ x u hx hu
section
variable {H : Type} {enc : TypeId × Value → H} {P : Program} {w : World} {base : Nat} {spare : Nat → Bool} {held : Bool}
def Y4(enc:TypeId×Value→H)(P:Program)(w:World)(base:Nat)(spare:Nat→Bool)(held:Bool)(n:Nat)(t:TypeId){α:Type}(E:α→List AV)(I:α→DataW H→Prop):Prop:=
 ∀a3 cs d ps,a3≤n→DataW.trod enc P w base spare held a3 t cs=some (d,ps)→∃a,I a d∧RelL (HV.full w) (E a) cs
theorem PT(n:Nat){t:TypeId}{k:IntKind}(ht:P.underlying t=some (.int k)):
  Y4 enc P w base spare held n t (fun a:Int=>[.int k a]) (fun a d=>(Lit.int k a).wf=true∧d= .lit (.int k a)):=fun a3 cs d ps _ h=>by
 obtain⟨m,rfl,he,hw⟩:=DataW.trod_int ht h;cases he;exact⟨m,⟨hw,rfl⟩,.one rfl (.int k m)⟩
theorem Q0k(n:Nat){t:TypeId}(ht:P.underlying t=some .string):
  Y4 enc P w base spare held n t (fun a:List UInt8=>[.str a]) (fun a d=>a.length≤maxLen∧d= .lit (.string a)):=fun a3 cs d ps _ h=>by
 obtain⟨m,rfl,he,hl⟩:=DataW.trod_string ht h;cases he;refine⟨m.data.toList,⟨by rw[Array.length_toList];exact hl,rfl⟩,.one rfl ?_⟩
 have:=RelI.str (H:=HV.full w) m.data.toList;simpa using this
def SliceI{α:Type}(I:α→DataW H→Prop)(l:List α)(d:DataW H):Prop:=
 l.length≤maxLen∧((l=[]∧d= .nil)∨∃a3 spare,d= .slice a3 spare∧a3.length=l.length∧∀(i:Nat) (a:α) (e:DataW H),l[i]? =some a→a3[i]? =some e→I a e)
theorem Sf{α β:Type}(R:Nat→α→β→Prop):∀(l:List β) (k:Nat),(∀i b,l[i]? =some b→∃a,R (k+i) a b)→∃a3:List α,a3.length=l.length∧∀i a b,a3[i]? =some a→l[i]? =some b→R (k+i) a b
 | [],k,_=>⟨[],rfl,fun i a b h=>by simp at h⟩
 |b::l,k,h=>by
  obtain⟨a,ha⟩:=h 0 b rfl;obtain⟨a3,hl,a4⟩:=Sf R l (k+1) (fun i b' hb=>by
   have:=h (i+1) b' hb;rw[show k+1+i=k+(i+1) by omega];exact this)
  refine⟨a::a3,by simp[hl],fun i x y hx hy=> ?_⟩
  cases i with
  |zero=>simp at hx hy;subst hx;subst hy;exact ha
  |succ i=>
   have:=a4 i x y hx hy;rw[show k+1+i=k+(i+1) by omega] at this;exact this
theorem Q2j{n:Nat}{t e:TypeId}{sz:Nat}{α:Type}{E:α→List AV}{I:α→DataW H→Prop}(F:α→AV)(ht:P.underlying t=some (.slice e))(hc:P.cellsOf e=sz)(ad:0<sz)(hF:∀a,(F a).cells=E a)(he:Y4 enc P w base spare held n e E I):
  Y4 enc P w base spare held (n+1) t (fun l:List α=>[.sl sz (l.map F)]) (SliceI I):=fun b6 cs d ps bf h=>by
 rcases DataW.trod_slice ht h with⟨rfl,hx⟩ | ⟨a,len,cap,a4,rest,m,rfl,rfl,hx,hb,hl,hm,a6,b4,_,_⟩
 ·cases hx;exact⟨[],⟨Nat.zero_le _,.inl ⟨rfl,rfl⟩⟩,.one rfl (.sl0 _ _ _ (Nat.zero_le _))⟩
 ·cases hx;subst hc;have ap:∀i b,a4[i]? =some b→∃x:α,I x b.1∧∃cs',w.cells? base (a.add ((0+i)*P.cellsOf e)) (P.cellsOf e)=some cs'∧RelL (HV.full w) (E x) cs':=fun i b hb=>by
   have hi:i<len:=by rw[← a6];exact(cqd.1 hb).1
   have:=b4 i hi;rw[hb] at this;obtain⟨cs',h1,h2⟩:=Option.bind_eq_some_iff.1 this;obtain⟨x,hx,hr⟩:=he m cs' b.1 b.2 (by omega) h2
   exact⟨x,hx,cs',by rw[Nat.zero_add];exact h1,hr⟩
  obtain⟨a3,ae,af⟩:=Sf (fun i (x:α) (b:DataW H×List MemPlace)=>I x b.1∧∃cs',w.cells? base (a.add (i*P.cellsOf e)) (P.cellsOf e)=some cs'∧RelL (HV.full w) (E x) cs') a4 0 ap
  have aa:∀i x,a3[i]? =some x→∃b,a4[i]? =some b:=fun i x hx=>by
   have:i<a3.length:=(cqd.1 hx).1;exact⟨_,cqc (by omega)⟩
  refine⟨a3,⟨by omega,.inr ⟨_,_,rfl,by simp[ae],fun i x e' hx an=> ?_⟩⟩,.one rfl ?_⟩
  ·rw[cqs,Option.map_eq_some_iff] at an;obtain⟨b,ag,rfl⟩:=an;exact(af i x b hx ag).1
  ·by_cases h0:a3=[]
   ·subst h0;have:len=0:=by rw[← a6,← ae];rfl
    subst this;exact .sl0 _ _ _ hm
   ·have ai:(a3.map F).length=len:=by simp[ae,a6]
    have aj:0<a3.length:=List.length_pos_iff.2 h0;obtain⟨b0,b1⟩:=aa 0 a3[0] (cqc aj);obtain⟨_,bb,b3,_⟩:=af 0 _ _ (cqc aj) b1;obtain⟨_,be,ah⟩:=World.cells?_some b3;have a7:a.spot=none:=by
     have:=ah 0 ad;rw[cqc (by omega)] at this
     have:=World.cell?_spot this;simpa[Addr.add] using this
    obtain⟨ab,ao,ba⟩:=a;simp only at a7;subst a7;rw[← ai];refine .sl (P.cellsOf e) (a3.map F) ab ao cap (fun i j=>(w.cell? ⟨ab,ao+i*P.cellsOf e+j,none⟩).getD Go.undef) ad (by omega) hm (fun i x hx=> ?_) (fun i x j c hx hj=> ?_) (fun i x j c hx hj=> ?_)
    all_goals
     rw[cqs,Option.map_eq_some_iff] at hx;obtain⟨y,hy,rfl⟩:=hx;obtain⟨b,ag⟩:=aa i y hy;obtain⟨_,cs',b2,hr⟩:=af i y b hy ag;obtain⟨_,a9,a8⟩:=World.cells?_some b2
    ·rw[hF,hr.1,a9]
    all_goals
     rw[hF] at hj;have b5:j<P.cellsOf e:=by
      have:=(cqd.1 hj).1;rw[hr.1,a9] at this;exact this
     have am:cs'[j]? =some (cs'[j]'(by omega)):=cqc (by omega)
     have hw:=a8 j b5;rw[am] at hw;have ak:((⟨ab,ao,none⟩:Addr).add ((0+i)*P.cellsOf e)).add j=⟨ab,ao+i*P.cellsOf e+j,none⟩:=by
      rw[Nat.zero_add];unfold Addr.add;split<;>split<;>simp_all
     rw[ak] at hw;obtain⟨h1,h2⟩:=hr.2 j c _ hj am
    ·simp only[HV.full,hw,Option.getD_some,true_and];exact h2.oneCell h1
    ·simp only[hw,Option.getD_some];exact h2
def LV(P:Program):Nat→List Field→Nat→Bool
 |o,[],o'=>o==o'
 |o,f::fs,o'=>f.offset==o&&LV P (o+P.cellsOf f.type) fs o'
def MV(enc:TypeId×Value→H)(P:Program)(w:World)(base:Nat)(spare:Nat→Bool)(held:Bool)(n:Nat)(fs:List Field){α:Type}(E:α→List AV)(I:α→List (DataW H)→Prop):Prop:=
 ∀(a3 o o':Nat) (cs:List Value) (xs:List (DataW H×List MemPlace)),a3≤n→xs.length=fs.length→LV P o fs o'=true→cs.length=o'→
  (∀(i:Nat) (f:Field),fs[i]? =some f→DataW.trod enc P w base spare held a3 f.type ((cs.drop f.offset).take (P.cellsOf f.type))=xs[i]?)→∃a,I a (xs.map (·.1))∧RelL (HV.full w) (E a) (cs.drop o)
theorem Q52(n:Nat):MV enc P w base spare held n [] (fun _:Unit=>[]) (fun _ ds=>ds=[]):=fun a3 o o' cs xs _ hl hf hc _=>by
 simp only[LV,beq_iff_eq] at hf;have:xs=[]:=List.length_eq_zero_iff.1 hl;subst this;refine⟨(),rfl,?_⟩;rw[List.drop_of_length_le (by omega)]
 exact .nil
theorem Q2d{n:Nat}{f:Field}{fs:List Field}{α β:Type}{E1:α→List AV}{I1:α→DataW H→Prop}{E2:β→List AV}{I2:β→List (DataW H)→Prop}
  (h1:Y4 enc P w base spare held n f.type E1 I1) (h2:MV enc P w base spare held n fs E2 I2):
  MV enc P w base spare held n (f::fs) (fun x:α×β=>E1 x.1++E2 x.2) (fun x ds=>∃d a4,ds=d::a4∧I1 x.1 d∧I2 x.2 a4):=fun a3 o o' cs xs a5 hl hf hc hx=>by
 simp only[LV,cqb,beq_iff_eq] at hf;obtain⟨ho,hf⟩:=hf;cases xs with
 |nil=>simp at hl
 |cons x xs=>
  have h0:=hx 0 f rfl;simp only[List.getElem?_cons_zero] at h0;obtain⟨a,ha,a7⟩:=h1 a3 _ x.1 x.2 a5 h0;obtain⟨b,hb,a8⟩:=h2 a3 (o+P.cellsOf f.type) o' cs xs a5 (by simpa using hl) hf hc (fun i g hg=>hx (i+1) g hg)
  refine⟨(a,b),⟨x.1,xs.map (·.1),rfl,ha,hb⟩,?_⟩;have:=a7.append a8;rw[ho,← List.drop_drop,List.take_append_drop] at this;exact this
theorem Q0l{n:Nat}{t:TypeId}{fs:Array Field}{α:Type}{E:α→List AV}{I:α→List (DataW H)→Prop}(ht:P.underlying t=some (.struct fs))(hf:LV P 0 fs.toList (P.cellsOf t)=true)
  (h:MV enc P w base spare held n fs.toList E I):Y4 enc P w base spare held (n+1) t E (fun a d=>∃ds,d= .agg ds∧I a ds):=fun a6 cs d ps aa hh=>by
 obtain⟨xs,m,rfl,hx,hc,hl,a4⟩:=DataW.trod_struct ht hh;cases hx;obtain⟨a,ha,hr⟩:=h m 0 _ cs xs (by omega) (by simpa using hl) hf hc (fun i f a5=>a4 i f (by rw[← Array.getElem?_toList];exact a5))
 exact⟨a,⟨_,rfl,ha⟩,by simpa using hr⟩
theorem Y4.to{n:Nat}{t:TypeId}{α β:Type}{E:α→List AV}{I:α→DataW H→Prop}(h:Y4 enc P w base spare held n t E I)(g:α→β){E':β→List AV}{I':β→DataW H→Prop}(hE:∀a,E' (g a)=E a)(hI:∀a d,I a d→I' (g a) d):
  Y4 enc P w base spare held n t E' I':=fun a3 cs d ps a4 hh=>by
 obtain⟨a,ha,hr⟩:=h a3 cs d ps a4 hh;exact⟨g a,hI a d ha,by rw[hE];exact hr⟩
theorem Y4.le{n m:Nat}{t:TypeId}{α:Type}{E:α→List AV}{I:α→DataW H→Prop}(h:Y4 enc P w base spare held n t E I)(hm:m≤n):Y4 enc P w base spare held m t E I:=
 fun a3 cs d ps a4 hh=>h a3 cs d ps (Nat.le_trans a4 hm) hh
theorem Y4.arg{t:TypeId}{α:Type}{E:α→List AV}{I:α→DataW H→Prop}(h:∀n,Y4 enc P w base spare held n t E I){v:Value}{d:DataW H}{ps:List MemPlace}(hd:DataW.Trod enc P w base spare held t v d ps):
  ∃a,I a d∧RelL (HV.full w) (E a) v.cells.toList:=by
 obtain⟨a3,hf⟩:=hd;exact h a3 a3 _ _ _ (Nat.le_refl _) hf
end
open Go.ChangeShapes Go.WideShapes
section
variable {H : Type} {enc : TypeId × Value → H} {P : Program} {w : World} {base : Nat} {spare : Nat → Bool} {held : Bool}
def Sz(P:Program)(t:TypeId)(d:DataW H):Prop:=∀k∈DataW.weights P t d,k≤reachBytes
def SzE(P:Program)(ts:List TypeId)(ds:List (DataW H)):Prop:=∀k∈DataW.weightsEach P ts ds,k≤reachBytes
theorem SzE.cons{t:TypeId}{ts:List TypeId}{d:DataW H}{ds:List (DataW H)}(h:SzE P (t::ts) (d::ds)):Sz P t d∧SzE P ts ds:=by
 unfold SzE at h;rw[DataW.weightsEach] at h;exact⟨fun k hk=>h k (List.mem_append_left _ hk),fun k hk=>h k (List.mem_append_right _ hk)⟩
theorem HQ{e:TypeId}:∀(ds:List (DataW H)) (i:Nat) (d:DataW H) (k:Nat),ds[i]? =some d→k∈DataW.weights P e d→k∈DataW.weightsAll P e ds
 | [],i,d,k,h,_=>by simp at h
 |x::r,0,d,k,h,hk=>by simp at h;subst h;rw[DataW.weightsAll];exact List.mem_append_left _ hk
 |x::r,i+1,d,k,h,hk=>by rw[DataW.weightsAll];exact List.mem_append_right _ (HQ r i d k (by simpa using h) hk)
theorem rzZero{α:Type}(t:TypeId)(E:α→List AV){I:α→DataW H→Prop}:Y4 enc P w base spare held 0 t E I:=fun a3 cs d ps hf h=>by
 obtain rfl:a3=0:=by omega
 simp[DataW.trod] at h
theorem WY(n:Nat){t:TypeId}{k:IntKind}(ht:P.underlying t=some (.int k)):Y4 enc P w base spare held n t (fun a:Int=>[.int k a]) (fun _ d=>Sz P t d→True):=
 (PT n ht).to id (fun _=>rfl) fun _ _ _ _=>trivial
theorem Fb(n:Nat){t:TypeId}(ht:P.underlying t=some .string):Y4 enc P w base spare held n t (fun a:List UInt8=>[.str a]) (fun a d=>Sz P t d→True):=
 (Q0k n ht).to id (fun _=>rfl) fun _ _ _ _=>trivial
theorem CG{n:Nat}{t e:TypeId}{sz:Nat}{α:Type}{E:α→List AV}{f:α→Prop}(F:α→AV)(ht:P.underlying t=some (.slice e))(hc:P.cellsOf e=sz)(a6:0<sz)(hF:∀a,(F a).cells=E a)(he:Y4 enc P w base spare held n e E (fun a d=>Sz P e d→f a)):
  Y4 enc P w base spare held (n+1) t (fun l:List α=>[.sl sz (l.map F)]) (fun l d=>Sz P t d→l.length*P.bytesOf e≤reachBytes∧∀a∈l,f a):=
 (Q2j F ht hc a6 hF he).to id (fun _=>rfl) fun l d h hz=>by
  obtain⟨_,⟨rfl,rfl⟩ | ⟨a3,sp,rfl,hl,hi⟩⟩:=h
  ·simp
  ·unfold Sz at hz;rw[DataW.weights] at hz;simp only[ht] at hz;refine⟨?_,fun a ha=> ?_⟩
   ·have:=hz _ (List.mem_cons_self ..);have h2:l.length*P.bytesOf e≤(a3.length+sp.length)*P.bytesOf e:=cqp _ (by omega)
    simp only[id];omega
   ·obtain⟨i,a4⟩:=List.getElem?_of_mem ha;have a5:i<a3.length:=by have:=(cqd.1 a4).1;simp only[id] at this;omega
    exact hi i a _ a4 (cqc a5) fun k hk=>hz k (List.mem_cons_of_mem _ (List.mem_append_left _ (HQ a3 i _ k (cqc a5) hk)))
theorem LG(n:Nat):MV enc P w base spare held n [] (fun _:Unit=>[]) (fun _ ds=>SzE P [] ds→True):=fun a3 o o' cs xs hf hl hb hc hx=>by
 obtain⟨a,_,h⟩:=Q52 n a3 o o' cs xs hf hl hb hc hx;exact⟨a,fun _=>trivial,h⟩
theorem ZU{n:Nat}{f:Field}{fs:List Field}{α β:Type}{E1:α→List AV}{w1:α→Prop}{E2:β→List AV}{w2:β→Prop}
  (h1:Y4 enc P w base spare held n f.type E1 (fun a d=>Sz P f.type d→w1 a)) (h2:MV enc P w base spare held n fs E2 (fun a ds=>SzE P (fs.map (·.type)) ds→w2 a)):
  MV enc P w base spare held n (f::fs) (fun x:α×β=>E1 x.1++E2 x.2) (fun x ds=>SzE P ((f::fs).map (·.type)) ds→w1 x.1∧w2 x.2):=fun a3 o o' cs xs hf hl hb hc hx=>by
 obtain⟨a,⟨d,ds,e,i1,i2⟩,h⟩:=Q2d h1 h2 a3 o o' cs xs hf hl hb hc hx;refine⟨a,fun hz=> ?_,h⟩
 rw[e,List.map_cons] at hz;exact⟨i1 hz.cons.1,i2 hz.cons.2⟩
theorem GM{n:Nat}{t:TypeId}{fs:Array Field}{α:Type}{E:α→List AV}{f:α→Prop}(ht:P.underlying t=some (.struct fs))(hf:LV P 0 fs.toList (P.cellsOf t)=true)
  (h:MV enc P w base spare held n fs.toList E (fun a ds=>SzE P (fs.toList.map (·.type)) ds→f a)):Y4 enc P w base spare held (n+1) t E (fun a d=>Sz P t d→f a):=
 (Q0l ht hf h).to id (fun _=>rfl) fun a d hd hz=>by
  obtain⟨ds,rfl,h⟩:=hd;refine h fun k hk=>hz k ?_
  rw[DataW.weights];simp only[ht];exact hk
end
def To:Yb:=fun _ _ _ _=>none
theorem Em{P:Program}{gl:Nat→AV}:Yb.Ok P gl To:=fun _ _ _ _ _ _ _ h=>by cases h
structure Pu (P:Program) (gl:Nat→AV) (f:Nat) (args:List AV) (r:AV):Prop where
 ok:Vr P gl f args r .nil 0
structure KB where
 slot:Nat
 path:List Nat:=[]
 own:Nat:=0
 cut:Bool:=false
 fz:Bool:=false
structure Alt where
 {α:Type}
 φ:α→Prop
 ex:Exit
 vs:α→List AV
 bs:α→List Box
inductive Hint:Type 1 where
 |v (x:AV)
 |b (t:Bool)
 |split
 |e {α:Type} (sh:α→AV)
 |u
 |s
 |a
 |us (s:List UInt8)
 |ac
 |o
 |nn
 |z (kb:List KB) (h:Option Hint)
 |n {α:Type} (sh:α→AV) (s:Nat) (h:Option Hint)
 |fl {α:Type} (sh:α→AV) (s:Nat) (h:Option Hint)
 |cc (r:AV)
 |c {α:Type} (sh:α→AV)
 |cb
 |h (kb:List KB) {α:Type} (r:α→AV) (bs:α→List Box)
 |hb (kb:List KB) {α:Type} (bs:α→List Box)
 |i (sub:List (Nat×Hint))
 |l {υ ω:Type} (gs:List KB) (ks:List Nat) (kb:List KB) (kx:List Nat) (kbx:List KB) (alts:υ→ω→List Alt)
abbrev QH:=List (Nat×Hint)
def lkH:QH→Nat→Option Hint
 | [],_=>none
 | (k,h)::r,n=>match Nat.beq k n with
  |true=>some h
  |false=>lkH r n
def B5(dst:Option Nat)(op:Op):Nat:=
 match dst with
 |some d=>d
 |none=>match op with
  | .store _ (.tmp k) _=>1000000+k
  |_=>1000000
abbrev Res:=AV×Option (Nat×Box)
def oblV(P:Program)(bid:Nat)(dst:Option Nat)(op:Op)(ev:Operand→AV)(hp:Hp)(r:AV):Prop:=
 match op with
 | .indexAddr t x i=>YV P t (ev x) (ev i)=some r
 | .index t x i=>HR P t (ev x) (ev i)=some r
 | .slice t x lo hi mx=>Ji P t (ev x) (lo.map ev) (hi.map ev) (mx.map ev)=some r
 | .load t x=>CL P t (ev x) hp=some r
 | .binOp o t x y _=>xbin P o t (ev x) (ev y)=some r
 | .convert src to x=>Fz P src to (ev x)=some r
 |op=>xop P bid dst op ev hp=some (r,none)
theorem oblV_ok{P:Program}{bid:Nat}{dst:Option Nat}{op:Op}{ev:Operand→AV}{hp:Hp}{r:AV}(h:oblV P bid dst op ev hp r):xop P bid dst op ev hp=some (r,none):=by
 unfold oblV at h;split at h;·refine ZN ?_;show xv _=_;rw[h];rfl
 ·refine ZN ?_;show xv _=_;rw[h];rfl
 ·refine ZN ?_;show xv _=_;rw[h];rfl
 ·refine ZN ?_;show xv _=_;rw[h];rfl
 ·refine ZN ?_;show xv _=_;rw[h];rfl
 ·refine ZN ?_;show xv _=_;rw[h];rfl
 ·exact h
def bI(d:Int):Option AV→Option Int
 |none=>some d
 |some (.int _ n)=>some n
 |some _=>none
def ieq(P:Program)(t:TypeId)(sz:Nat):Bool:=match elI P t with
 |some k=>Nat.beq k sz
 |none=>false
theorem Ic{P:Program}{t:TypeId}{sz:Nat}(h:ieq P t sz=true):elI P t=some sz:=by
 grind [ieq,hk,cqa]
def keq(a b:IntKind):Bool:=if a=b then true else false
theorem keq_ok{a b:IntKind}(h:keq a b=true):a=b:=by
 simp_all [keq]
def wopS(P:Program)(op:Op)(ev:Operand→AV)(K:Res→Prop):Prop:=
 match op with
 | .binOp o _ x y _=>match ev x,ev y with
  | .str a,.str b=>match o with
   | .add=>a.length+b.length≤9223372036854775807∧K (.str (a++b),none)
   |_=>False
  | .int k a,.int k' b=>match o with
   | .shl=>0≤b∧K (.int k (k.wrap (a*2^ (min b.toNat k.bits))),none)
   | .shr=>0≤b∧K (.int k (a.fdiv (2^ (min b.toNat k.bits))),none)
   |o=>match keq k k' with
    |true=>match o with
     | .quo=>b≠0∧K (.int k (k.wrap (a.tdiv b)),none)
     | .rem=>b≠0∧K (.int k (a.tmod b),none)
     |_=>False
    |false=>False
  |_,_=>False
 | .indexAddr t x i=>match ev i with
  | .int _ k=>match ev x with
   | .bs id ver sz off len=>match ieq P t sz with
    |true=>(0≤k∧k<len)∧K (.ptr id ver (off+k.toNat*sz),none)
    |false=>False
   | .ow id ver sz len=>match ieq P t sz with
    |true=>(0≤k∧k<len)∧K (.oe id ver sz k.toNat 0,none)
    |false=>False
   | .ptr id ver off=>match arI P t with
    |some (n,z,_)=>(0≤k∧k<n)∧K (.ptr id ver (off+k.toNat*z),none)
    |none=>False
   | .ip sz xs j off=>match arI P t with
    |some (n,z,_)=>(0≤k∧k<n)∧K (.ip sz xs j (off+k.toNat*z),none)
    |none=>False
   |_=>False
  |_=>False
 | .slice t x lo hi mx=>match mx with
  |some _=>False
  |none=>match bI 0 (lo.map ev) with
   |some l=>match ev x with
    | .str s=>match V6 P t with
     |true=>match hi with
      |none=>(0≤l∧l≤s.length)∧K (.str (s.drop l.toNat),none)
      |some hi=>match bI 0 (some (ev hi)) with
       |some h=>(0≤l∧l≤h∧h≤s.length)∧K (.str ((s.take h.toNat).drop l.toNat),none)
       |none=>False
     |false=>False
    | .sl sz xs=>match ieq P t sz with
     |true=>match hi with
      |none=>(0≤l∧l≤xs.length)∧K (.sl sz (xs.drop l.toNat),none)
      |some hi=>match bI 0 (some (ev hi)) with
       |some h=>(0≤l∧l≤h∧h≤xs.length)∧K (.sl sz ((xs.take h.toNat).drop l.toNat),none)
       |none=>False
     |false=>False
    | .bs id ver sz off len=>match bI len (hi.map ev) with
     |some h=>match ieq P t sz with
      |true=>(0≤l∧l<h∧h≤len)∧K (.bs id ver sz (off+l.toNat*sz) (h.toNat - l.toNat),none)
      |false=>False
     |none=>False
    | .ow id ver sz len=>match bI len (hi.map ev) with
     |some h=>match ieq P t sz with
      |true=>(l=0∧0≤h∧h≤len)∧K (.ow id ver sz h.toNat,none)
      |false=>False
     |none=>False
    |_=>False
   |none=>False
 |_=>False
theorem bI_ok{d:Nat}{o:Option AV}{n:Int}(h:bI d o=some n)(h0:0≤n):bndN d o=some n.toNat:=by
 unfold bI at h;split at h;·cases h;rfl
 ·simp_all [bndN,if_pos]
 ·cases h
theorem bI_okS{d d':Nat}{x:AV}{n:Int}(h:bI d (some x)=some n)(h0:0≤n):bndN d' (some x)=some n.toNat:=by
 unfold bI at h;split at h
 ·simp_all
 ·simp_all [bndN,if_pos]
 ·cases h
theorem Q4g{P:Program}{bid:Nat}{dst:Option Nat}{op:Op}{ev:Operand→AV}{hp:Hp}{K:Res→Prop}(h:wopS P op ev K):∃r,xop P bid dst op ev hp=some r∧K r:=by
 unfold wopS at h;split at h
 ·rename_i o t x y p;split at h
  ·rename_i a b hx hy;split at h
   ·refine⟨_,ZN ?_,h.2⟩;show xv (xbin P .add t (ev x) (ev y))=_;rw[hx,hy];show xv (Fx .add a b)=_;simp only[Fx,if_pos h.1];rfl
   ·cases h
  ·rename_i k a k' b hx hy;split at h
   ·refine⟨_,ZN ?_,h.2⟩;show xv (xbin P .shl t (ev x) (ev y))=_;rw[hx,hy];simp only[xbin,if_pos h.1];rfl
   ·refine⟨_,ZN ?_,h.2⟩;show xv (xbin P .shr t (ev x) (ev y))=_;rw[hx,hy];simp only[xbin,if_pos h.1];rfl
   ·split at h
    ·rename_i hk;obtain rfl:=keq_ok hk;split at h
     ·refine⟨_,ZN ?_,h.2⟩;show xv (xbin P .quo t (ev x) (ev y))=_;rw[hx,hy];simp only[xbin,if_true,Fw,if_neg h.1];rfl
     ·refine⟨_,ZN ?_,h.2⟩;show xv (xbin P .rem t (ev x) (ev y))=_;rw[hx,hy];simp only[xbin,if_true,Fw,if_neg h.1];rfl
     ·cases h
    ·cases h
  ·cases h
 ·rename_i t x i;split at h
  ·rename_i k0 k hi;split at h
   ·rename_i id ver sz off len hx;split at h
    ·rename_i ht;refine⟨_,ZN ?_,h.2⟩;show xv (YV P t (ev x) (ev i))=_;rw[hx,hi];simp only[YV];rw[if_pos ⟨Ic ht,h.1.1,h.1.2⟩];rfl
    ·cases h
   ·rename_i id ver sz len hx;split at h
    ·rename_i ht;refine⟨_,ZN ?_,h.2⟩;show xv (YV P t (ev x) (ev i))=_;rw[hx,hi];simp only[YV];rw[if_pos ⟨Ic ht,h.1.1,h.1.2⟩];rfl
    ·cases h
   ·rename_i id ver off hx;split at h
    ·rename_i n z g ht;refine⟨_,ZN ?_,h.2⟩;show xv (YV P t (ev x) (ev i))=_;rw[hx,hi];simp only[YV,ht];rw[if_pos h.1];rfl
    ·cases h
   ·rename_i sz xs j off hx;split at h
    ·rename_i n z g ht;refine⟨_,ZN ?_,h.2⟩;show xv (YV P t (ev x) (ev i))=_;rw[hx,hi];simp only[YV,ht];rw[if_pos h.1];rfl
    ·cases h
   ·cases h
  ·cases h
 ·rename_i t x lo hi mx;split at h;·cases h
  ·split at h
   ·rename_i l hl;have a6:∀d:Int,0≤l→bndN 0 (lo.map ev)=some l.toNat:=fun _ h0=>bI_ok hl h0
    split at h
    ·rename_i s hx;split at h
     ·rename_i ht;split at h
      ·obtain⟨⟨h0,h1⟩,hK⟩:=h;refine⟨_,ZN ?_,hK⟩;show xv (Ji P t (ev x) (lo.map ev) none none)=_;rw[hx];simp only[Ji,a6 0 h0,show bndN s.length none=some s.length from rfl];rw[if_pos ⟨ht,rfl,by omega,Nat.le_refl _⟩,List.take_length];rfl
      ·rename_i hi;split at h
       ·rename_i hh a5;obtain⟨⟨h0,h1,h2⟩,hK⟩:=h;refine⟨_,ZN ?_,hK⟩;show xv (Ji P t (ev x) (lo.map ev) (some (ev hi)) none)=_;rw[hx];simp only[Ji,a6 0 h0,bI_okS a5 (by omega)]
        rw[if_pos ⟨ht,rfl,by omega,by omega⟩];rfl
       ·cases h
     ·cases h
    ·rename_i sz xs hx;split at h
     ·rename_i ht;split at h
      ·obtain⟨⟨h0,h1⟩,hK⟩:=h;refine⟨_,ZN ?_,hK⟩;show xv (Ji P t (ev x) (lo.map ev) none none)=_;rw[hx];simp only[Ji,a6 0 h0,show bndN xs.length none=some xs.length from rfl];rw[if_pos ⟨Ic ht,by omega,Nat.le_refl _⟩,List.take_length];rfl
      ·rename_i hi;split at h
       ·rename_i hh a5;obtain⟨⟨h0,h1,h2⟩,hK⟩:=h;refine⟨_,ZN ?_,hK⟩;show xv (Ji P t (ev x) (lo.map ev) (some (ev hi)) none)=_;rw[hx];simp only[Ji,a6 0 h0,bI_okS a5 (by omega)]
        rw[if_pos ⟨Ic ht,by omega,by omega⟩];rfl
       ·cases h
     ·cases h
    ·rename_i id ver sz off len hx;split at h
     ·rename_i hh a5;split at h
      ·rename_i ht;obtain⟨⟨h0,h1,h2⟩,hK⟩:=h;refine⟨_,ZN ?_,hK⟩;show xv (Ji P t (ev x) (lo.map ev) (hi.map ev) none)=_;rw[hx];simp only[Ji,a6 0 h0,bI_ok a5 (by omega)]
       rw[if_pos ⟨Ic ht,by omega,by omega⟩,if_neg (by omega)];rfl
      ·cases h
     ·cases h
    ·rename_i id ver sz len hx;split at h
     ·rename_i hh a5;split at h
      ·rename_i ht;obtain⟨⟨h0,h1,h2⟩,hK⟩:=h;refine⟨_,ZN ?_,hK⟩;show xv (Ji P t (ev x) (lo.map ev) (hi.map ev) none)=_;rw[hx];simp only[Ji,a6 0 (by omega),bI_ok a5 (by omega)]
       rw[if_pos ⟨Ic ht,by omega,by omega⟩];rfl
      ·cases h
     ·cases h
    ·cases h
   ·cases h
 ·cases h
def wsrc(P:Program)(t t':TypeId)(sz:Nat)(x:AV)(hp:Hp):Option (Nat×List AV):=
 match x with
 | .str b=>match V6 P t'&&Nat.beq sz 1 with
  |true=>some (b.length,b.map UB)
  |false=>none
 |x=>match Nat.beq t' t with
  |true=>xsrc sz x hp
  |false=>none
def wappT(bid e tg sz a3 n:Nat)(ds:List AV)(s:AV)(hp:Hp)(K:Res→Prop):Prop:=
 match s with
 | .nil=>(n≠0∧n*a3≤140737488355328∧n≤9223372036854775807)∧K (.bs bid tg sz 0 n,some (bid,.cells tg ds))
 | .emp=>(n≠0∧n*a3≤140737488355328∧n≤9223372036854775807)∧K (.bs bid tg sz 0 n,some (bid,.cells tg ds))
 | .bs id ver z off len=>match hp id with
  |some (.cells v cs)=>match Nat.beq z sz&&Nat.beq v ver with
   |true=>(n≠0∧off+len*sz≤cs.length∧(len+n)*a3≤140737488355328∧len+n≤9223372036854775807)∧K (.bs id (DF e off ver) sz 0 (len+n),some (id,.cells (DF e off ver) ((cs.drop off).take (len*sz)++ds)))
   |false=>False
  |_=>False
 |_=>False
theorem Qa7{bid e tg sz a3 n:Nat}{ds:List AV}{s:AV}{hp:Hp}{K:Res→Prop}(h:wappT bid e tg sz a3 n ds s hp K):n≠0∧∃r,UF bid e tg sz a3 n ds s hp=some r∧K r:=by
 unfold wappT at h;unfold UF;split at h
 ·simp_all
 ·simp_all
 ·split at h
  ·rename_i v cs a5;split at h
   ·simp_all
   ·cases h
  ·cases h
 ·cases h
def wels(sz:Nat)(x:AV)(hp:Hp)(K:List AV→Prop):Prop:=
 match x with
 | .ow id ver z len=>match hp id with
  |some (.own v z' xs)=>match Nat.beq z sz&& (Nat.beq z' sz&&Nat.beq v ver) with
   |true=>len=xs.length∧K xs
   |false=>False
  |_=>False
 |x=>match xels sz x hp with
  |some ys=>K ys
  |none=>False
theorem Pv{sz:Nat}{x:AV}{hp:Hp}{K:List AV→Prop}(h:wels sz x hp K):∃ys,xels sz x hp=some ys∧K ys:=by
 unfold wels at h;split at h
 ·rename_i id ver z len;split at h
  ·rename_i v z' xs a3;split at h
   ·simp_all [cqb,xels,Nat.ble_eq_true_of_le,Nat.le_refl]
   ·cases h
  ·cases h
 grind
def wapp(P:Program)(bid:Nat)(op:Op)(ev:Operand→AV)(hp:Hp)(K:Res→Prop):Prop:=
 match op with
 | .call c=>match c.callee with
  | .builtin .append=>match c.argTypes.toList,c.args.toList.map ev with
   | [t,t'],[s,x]=>match elG P t with
    |some (sz,by_,_)=>match s with
     | .ow id ver z len=>match Nat.beq sz z&&Nat.beq t' t with
      |true=>match hp id with
       |some (.own v z' xs)=>match Nat.beq z' z&&Nat.beq v ver with
        |true=>wels z x hp (fun ys=>(len=xs.length∧(len+ys.length)*by_≤140737488355328∧len+ys.length≤9223372036854775807)∧K (.ow id (ver+4096) z (len+ys.length),some (id,.own (ver+4096) z (xs++ys))))
        |false=>False
       |_=>False
      |false=>False
     |s=>match wsrc P t t' sz x hp with
      |some (n,ds)=>wappT bid (elT P t) (tagE P (elT P t)) sz by_ n ds s hp K
      |none=>False
    |none=>False
   |_,_=>False
  |_=>False
 |_=>False
def wappC(P:Program)(op:Op)(ev:Operand→AV)(hp:Hp)(K:Res→Prop):Prop:=
 match op with
 | .call c=>match c.callee with
  | .builtin .append=>match c.argTypes.toList,c.args.toList.map ev with
   | [t,t'],[s,x]=>match elG P t with
    |some (sz,by_,_)=>match s with
     | .ow id ver z len=>match Nat.beq sz z&&Nat.beq t' t with
      |true=>match hp id with
       |some (.own v z' xs)=>match Nat.beq z' z&&Nat.beq v ver with
        |true=>wels z x hp (fun ys=>(len≤xs.length∧(len+ys.length)*by_≤140737488355328∧len+ys.length≤9223372036854775807)∧K (.ow id (ver+4096) z (len+ys.length),some (id,.own (ver+4096) z (xs.take len++ys))))
        |false=>False
       |_=>False
      |false=>False
     |_=>False
    |none=>False
   |_,_=>False
  |_=>False
 |_=>False
theorem Qa6{P:Program}{bid:Nat}{dst:Option Nat}{op:Op}{ev:Operand→AV}{hp:Hp}{K:Res→Prop}(h:wappC P op ev hp K):∃r,xop P bid dst op ev hp=some r∧K r:=by
 unfold wappC at h;split at h<;>first | cases h | skip
 rename_i c;split at h<;>first | cases h | skip
 rename_i hc;split at h<;>first | cases h | skip
 rename_i t t' s x ht hx;split at h<;>first | cases h | skip
 rename_i sz a5 zs a4;split at h<;>first | cases h | skip
 rename_i id ver z len;split at h<;>first | cases h | skip
 rename_i a3;rw[cqb] at a3;obtain rfl:=cqa a3.1;obtain rfl:=cqa a3.2;split at h<;>first | cases h | skip
 rename_i v z' xs ab;split at h<;>first | cases h | skip
 rename_i a6;rw[cqb] at a6;obtain⟨ys,ad,⟨h1,h2,h3⟩,hK⟩:=Pv h;refine⟨_,Q4n ?_ ?_ ?_,hK⟩
 ·have:∀n ds,(if n=0 then(if AQ (.ow id ver sz len) then some ((.ow id ver sz len:AV),(none:Option (Nat×Box))) else none) else UF bid (elT P t') (tagE P (elT P t')) sz a5 n ds (.ow id ver sz len) hp)=none:=fun n ds=>by
   split<;>rfl
  simp only[xop0,hc,V7,ht,hx,JB,a4,if_true];split
  ·simp_all
  ·rfl
 ·simp only[xopX,hc,ht,hx,MR,a4];split
  ·split
   ·split;·rfl
    ·rfl
   ·rfl
  ·rfl
 simp_all [xopO,CJ,Nat.beq_refl,Nat.ble_eq_true_of_le]
theorem wapp_ok{P:Program}{bid:Nat}{dst:Option Nat}{op:Op}{ev:Operand→AV}{hp:Hp}{K:Res→Prop}(h:wapp P bid op ev hp K):∃r,xop P bid dst op ev hp=some r∧K r:=by
 unfold wapp at h;split at h
 ·rename_i c;split at h
  ·rename_i hc;split at h
   ·rename_i t t' s x ht hx;split at h
    ·rename_i sz a6 zs a5;split at h
     ·rename_i id ver z len;split at h
      ·rename_i a4;rw[cqb] at a4;obtain rfl:=cqa a4.1;obtain rfl:=cqa a4.2;split at h
       ·rename_i v z' xs ae;split at h
        ·rename_i a9;rw[cqb] at a9;obtain⟨ys,af,⟨h1,h2,h3⟩,hK⟩:=Pv h;subst h1;refine⟨_,Q4n ?_ ?_ ?_,hK⟩
         ·have:∀n ds,(if n=0 then(if AQ (.ow id ver sz xs.length) then some ((.ow id ver sz xs.length:AV),(none:Option (Nat×Box))) else none) else UF bid (elT P t') (tagE P (elT P t')) sz a6 n ds (.ow id ver sz xs.length) hp)=none:=fun n ds=>by
           split<;>rfl
          simp only[xop0,hc,V7,ht,hx,JB,a5,if_true];split
          ·simp_all
          ·rfl
         ·simp only[xopX,hc,ht,hx,MR,a5];split
          ·split
           ·split;·rfl
            ·rfl
           ·rfl
          ·rfl
         simp_all [xopO,CJ,Nat.beq_refl,Nat.ble_eq_true_of_le,Nat.le_refl]
        ·cases h
       ·cases h
      ·cases h
     ·split at h
      ·rename_i n ds a3;obtain⟨h0,r,hr,hK⟩:=Qa7 h;refine⟨r,?_,hK⟩;unfold wsrc at a3;split at a3
       ·rename_i b;split at a3
        ·rename_i a4;cases a3;have e0:xop0 P bid dst (.call c) ev hp=none:=by
          simp_all [xop0,V7,JB,xsrc]
         refine LX e0 ?_;simp only[xopX,hc,ht,hx,MR,a5]
         grind
        grind
       ·split at a3
        ·rename_i a4;obtain rfl:=cqa a4
         simp_all [ZN,xop0,V7,JB,if_true,if_neg]
        grind
      ·cases h
    ·cases h
   ·cases h
  ·cases h
 ·cases h
theorem Ec:∀(s:List UInt8),I7 (s.map UB)=some s
 | []=>rfl
 |c::s=>by
  have hc:=c.toNat_lt;have h:(decide ((0:Int)≤(c.toNat:Int))&&decide ((c.toNat:Int)<256))=true:=by simp;omega
  simp only[List.map_cons,UB,I7,h];rw[Ec s];simp
def wus(P:Program)(op:Op)(ev:Operand→AV)(hp:Hp)(s:List UInt8)(K:Res→Prop):Prop:=
 match op with
 | .convert src to x=>match ev x with
  | .bs id ver sz off len=>match hp id with
   |some (.cells v cs)=>match Nat.beq v ver&& (Nat.beq sz 1&& (Mw P src&&V6 P to)) with
    |true=>(off+len≤cs.length∧(cs.drop off).take len=s.map UB)∧K (.str s,none)
    |false=>False
   |_=>False
  |_=>False
 | .call c=>match c.callee with
  | .builtin b=>match b with
   | .unsafeSliceData=>match c.args.toList.map ev with
    | [x]=>match x with
     | .bs id ver _ off len=>0<len∧K (.ptr id ver off,none)
     | .nil=>K (.nilp,none)
     |_=>False
    |_=>False
   | .unsafeString=>match c.argTypes.toList,c.args.toList.map ev with
    | [pt,_],[p,n]=>match p with
     | .ptr id ver off=>match n with
      | .int .i64 n=>match hp id with
       |some (.cells v cs)=>match ptTo P pt with
        |some e=>match Nat.beq v ver&& (Nat.beq off 0&& (Nat.beq (ver%4096) (e+1)&&Nat.beq (P.cellsOf e) 1)) with
         |true=>(0<n∧n≤9223372036854775807∧n.toNat≤cs.length∧cs.take n.toNat=s.map UB)∧K (.str s,some (id,.dead))
         |false=>False
        |none=>False
       |_=>False
      |_=>False
     | .nilp=>match n with
      | .int .i64 0=>K (.str [],none)
      |_=>False
     |_=>False
    |_,_=>False
   |_=>False
  |_=>False
 |_=>False
theorem wus_ok{P:Program}{bid:Nat}{dst:Option Nat}{op:Op}{ev:Operand→AV}{hp:Hp}{s:List UInt8}{K:Res→Prop}(h:wus P op ev hp s K):∃r,xop P bid dst op ev hp=some r∧K r:=by
 unfold wus at h;split at h
 ·rename_i a7 to x;split at h
  ·rename_i id ver sz off len hx;split at h
   ·rename_i v cs a5;split at h
    ·rename_i hc;simp only[cqb] at hc;obtain⟨h1,h2,h3,h4⟩:=hc;obtain⟨⟨a6,hs⟩,hK⟩:=h;refine⟨_,?_,hK⟩;have e0:xop0 P bid dst (.convert a7 to x) ev hp=none:=by simp only[xop0,hx,Fz];rfl
     refine LX e0 ?_;simp only[xopX,hx,Mb,a5,hs,Ec];rw[h1,h2,h3,h4,Nat.ble_eq_true_of_le a6];rfl
    ·cases h
   ·cases h
  ·cases h
 ·rename_i c;split at h
  ·rename_i b hc;split at h
   ·split at h
    ·rename_i x hx;split at h
     ·rename_i id ver z off len;refine⟨_,?_,h.2⟩;have e0:xop0 P bid dst (.call c) ev hp=none:=by simp_all [xop0,V7]
      refine LX e0 ?_;simp only[xopX,hc,hx,T3];rw[Nat.ble_eq_true_of_le (show 0+1≤len from h.1) |>(fun e=>(show Nat.blt 0 len=true from e))]
      rfl
     ·refine⟨_,?_,h⟩;have e0:xop0 P bid dst (.call c) ev hp=none:=by simp_all [xop0,V7]
      refine LX e0 ?_;simp only[xopX,hc,hx,T3];rfl
     ·cases h
    ·cases h
   ·split at h
    ·rename_i pt it p n ht hx;split at h
     ·rename_i id ver off;split at h
      ·rename_i n;split at h
       ·rename_i v cs a5;split at h
        ·rename_i e he;split at h
         ·simp_all [cqb,xop0,V7,LX,xopX,LQ,Ec,Nat.ble_eq_true_of_le]
         ·cases h
        ·cases h
       ·cases h
      ·cases h
     ·grind [xop0,V7,LX,xopX,LQ]
     ·cases h
    ·cases h
   ·cases h
  ·cases h
 ·cases h
def wdef(P:Program)(bid:Nat)(dst:Option Nat)(op:Op)(ev:Operand→AV)(hp:Hp)(K:Res→Prop):Prop:=
 match xop P bid dst op ev hp with
 |some r=>K r
 |none=>False
def wst(P:Program)(dst:Option Nat)(op:Op)(ev:Operand→AV)(hp:Hp)(K:Res→Prop):Prop:=
 match op with
 | .store t x y=>match dst with
  |some _=>False
  |none=>match ev x with
   | .oe id ver sz i off=>match tyI P t with
    |some (n,_)=>match hp id with
     |some (.own v z xs)=>match ev y with
      |yv=>match Nat.beq v ver&& (Nat.beq z sz&& (Nat.ble (off+n) sz&& (yv.okc&& (Nat.beq yv.cells.length n&&yv.cells.all immA)))) with
       |true=>i<xs.length∧K (.undef,some (id,.own v z (xs.set i (putE off n z ((xs[i]?).getD .undef) yv))))
       |false=>match Nat.beq v ver&& (Nat.beq z sz&& (Nat.ble (off+n) sz&& (yv.okc&& (Nat.beq yv.cells.length n&&Nat.beq n 1)))) with
        |true=>i<xs.length∧K (.undef,some (id,.hol v z xs i off ((yv.cells[0]?).getD .undef)))
        |false=>False
     |_=>False
    |none=>False
   |_=>False
 | .load t x=>match ev x with
  | .oe id ver sz i off=>match tyI P t with
   |some (n,g)=>match hp id with
    |some (.hol v z _ j c r)=>match Nat.beq v ver&& (Nat.beq z sz&& (Nat.beq off c&&Nat.beq (wd g n) 1)) with
     |true=>i=j∧K (CA g n 0 [r],none)
     |false=>False
    |_=>False
   |none=>False
  |_=>False
 |op=>wopS P op ev K
theorem wst_ok{P:Program}{bid:Nat}{dst:Option Nat}{op:Op}{ev:Operand→AV}{hp:Hp}{K:Res→Prop}(h:wst P dst op ev hp K):∃r,xop P bid dst op ev hp=some r∧K r:=by
 unfold wst at h;split at h
 ·rename_i t x y;split at h;·cases h
  ·split at h
   ·rename_i id ver sz i off hx;split at h
    ·rename_i n g ht;split at h
     ·rename_i v z xs a4;simp only at h;split at h
      ·rename_i hc;obtain⟨hi,hK⟩:=h;simp only[cqb] at hc;refine⟨_,ZN ?_,hK⟩;have hb:Nat.blt i xs.length=true:=Nat.ble_eq_true_of_le hi
       simp_all [xop0,Option.isNone_none,if_true,Dc]
      ·rename_i hn;split at h
       ·rename_i hc;obtain⟨hi,hK⟩:=h;simp only[cqb] at hc;refine⟨_,ZN ?_,hK⟩;have hb:Nat.blt i xs.length=true:=Nat.ble_eq_true_of_le hi;simp only[xop0,Option.isNone_none,if_true,Dc,ht,hx,a4]
        grind
       ·cases h
     ·cases h
    ·cases h
   ·cases h
 ·rename_i t x;split at h
  ·rename_i id ver sz i off hx;split at h
   ·rename_i n g ht;split at h
    ·rename_i v z xs j c r a4;split at h
     ·rename_i hc;obtain⟨rfl,hK⟩:=h;simp only[cqb] at hc;refine⟨_,ZN ?_,hK⟩;show xv (CL P t (ev x) hp)=_;rw[hx];simp only[CL,ht,a4];rw[hc.1,hc.2.1,hc.2.2.1,hc.2.2.2,show Nat.beq i i=true from Nat.beq_refl i];rfl
     ·cases h
    ·cases h
   ·cases h
  ·cases h
 ·exact Q4g h
def wask(P:Program)(bid:Nat)(dst:Option Nat)(op:Op)(ev:Operand→AV)(hp:Hp)(h:Option Hint)(K:Res→Prop):Prop:=
 match h with
 |none=>wdef P bid dst op ev hp K
 |some h=>match h with
  | .v x=>oblV P bid dst op ev hp x∧K (x,none)
  | .b t=>match xop P bid dst op ev hp with
   |some (.bool u,none)=>u=t∧K (.bool t,none)
   |_=>False
  | .split=>match xop P bid dst op ev hp with
   |some (.bool u,none)=>(u=true→K (.bool true,none))∧(u=false→K (.bool false,none))
   |_=>False
  | .e sh=>match op with
   | .indexAddr t a i=>match ev a with
    | .sl sz xs=>match ev i with
     | .int _ k=>match ieq P t sz with
      |true=>∃x,(0≤k∧xs[k.toNat]? =some (sh x))∧K (.ip sz [sh x] 0 0,none)
      |false=>False
     |_=>False
    |_=>wopS P op ev K
   | .load t a=>match ev a with
    | .oe id ver sz i off=>match tyI P t with
     |some (n,g)=>match hp id with
      |some (.own v z xs)=>match Nat.beq v ver&& (Nat.beq z sz&&Nat.ble (off+wd g n) sz) with
       |true=>∃x,xs[i]? =some (sh x)∧K (CA g n off (sh x).cells,none)
       |false=>False
      |_=>False
     |none=>False
    |_=>wdef P bid dst op ev hp K
   | .store t x y=>match dst with
    |some _=>False
    |none=>match ev x with
     | .oe id ver sz i off=>match tyI P t with
      |some (n,_)=>match hp id with
       |some (.own v z xs)=>match ev y with
        |yv=>match Nat.beq v ver&& (Nat.beq z sz&& (Nat.ble (off+n) sz&& (yv.okc&& (Nat.beq yv.cells.length n&&yv.cells.all immA)))) with
         |true=>∃x,xs[i]? =some (sh x)∧K (.undef,some (id,.own v z (xs.set i (putE off n z (sh x) yv))))
         |false=>False
       |_=>False
      |none=>False
     |_=>False
   |_=>False
  | .u=>match op with
   | .index t a i=>match ev a with
    | .str s=>match ev i with
     | .int _ k=>match V6 P t with
      |true=>∃x:UInt8,(0≤k∧s[k.toNat]? =some x)∧K (.int .u8 x.toNat,none)
      |false=>False
     |_=>False
    |_=>False
   |_=>False
  | .s=>wst P dst op ev hp K
  | .a=>wapp P bid op ev hp K
  | .us s=>wus P op ev hp s K
  | .ac=>wappC P op ev hp K
  |_=>False
theorem Q4c{P:Program}{bid:Nat}{dst:Option Nat}{op:Op}{ev:Operand→AV}{hp:Hp}{K:Res→Prop}(hw:wdef P bid dst op ev hp K):∃r,xop P bid dst op ev hp=some r∧K r:=by
 grind [wdef]
theorem Q4b{P:Program}{bid:Nat}{dst:Option Nat}{op:Op}{ev:Operand→AV}{hp:Hp}{h:Option Hint}{K:Res→Prop}(hw:wask P bid dst op ev hp h K):∃r,xop P bid dst op ev hp=some r∧K r:=by
 unfold wask at hw;split at hw;·exact Q4c hw
 ·rename_i h;split at hw
  ·grind [oblV_ok]
  ·grind
  ·split at hw
   ·rename_i u hx;refine⟨_,hx,?_⟩;cases u with
    |true=>simp_all
    |false=>simp_all
   ·cases hw
  ·rename_i sh;split at hw
   ·rename_i t a i;split at hw
    ·rename_i sz xs hx;split at hw
     ·rename_i k0 k hi;split at hw
      ·rename_i ht;obtain⟨x,⟨h0,h1⟩,hK⟩:=hw;refine⟨_,ZN ?_,hK⟩;show xv (YV P t (ev a) (ev i))=_;rw[hx,hi];have a4:k<xs.length:=by
        grind
       simp only[YV];rw[if_pos ⟨Ic ht,h0,a4⟩,h1];rfl
      ·cases hw
     ·cases hw
    ·exact Q4g hw
   ·rename_i t a;split at hw
    ·rename_i id ver sz i off hx;split at hw
     ·rename_i n g ht;split at hw
      ·rename_i v z xs a9;split at hw
       ·rename_i hc;simp only[cqb] at hc;obtain⟨x,h1,hK⟩:=hw;refine⟨_,ZN ?_,hK⟩;show xv (CL P t (ev a) hp)=_;rw[hx];have a4:i<xs.length:=(cqd.1 h1).1;simp only[CL,ht,a9];rw[hc.1,hc.2.1,hc.2.2,show Nat.blt i xs.length=true from Nat.ble_eq_true_of_le a4,h1];rfl
       ·cases hw
      ·cases hw
     ·cases hw
    ·exact Q4c hw
   ·rename_i t x y;split at hw;·cases hw
    ·split at hw
     ·rename_i id ver sz i off hx;split at hw
      ·rename_i n g ht;split at hw
       ·rename_i v z xs a9;simp only at hw;split at hw
        ·rename_i hc;obtain⟨e,h1,hK⟩:=hw;simp only[cqb] at hc;refine⟨_,ZN ?_,hK⟩;have hb:Nat.blt i xs.length=true:=Nat.ble_eq_true_of_le (cqd.1 h1).1
         simp_all [xop0,Option.isNone_none,if_true,Dc]
        ·cases hw
       ·cases hw
      ·cases hw
     ·cases hw
   ·cases hw
  ·split at hw
   ·rename_i t a i;split at hw
    ·rename_i s hx;split at hw
     ·rename_i k0 k hi;split at hw
      ·rename_i ht;obtain⟨x,⟨h0,h1⟩,hK⟩:=hw;refine⟨_,ZN ?_,hK⟩;show xv (HR P t (ev a) (ev i))=_;rw[hx,hi];have a4:k<s.length:=by
        grind
       simp only[HR];rw[if_pos (by simp_all),h1];rfl
      ·cases hw
     ·cases hw
    ·cases hw
   ·cases hw
  ·exact wst_ok hw
  ·exact wapp_ok hw
  ·exact wus_ok hw
  ·exact Qa6 hw
  ·cases hw
def refId:AV→Option Nat
 | .ptr id _ _=>some id
 | .bs id _ _ _ _=>some id
 | .ow id _ _ _=>some id
 | .oe id _ _ _ _=>some id
 | .mp id=>some id
 |_=>none
def Mx(hp:Hp):AV→List Nat→Option (Nat×Nat)
 |_,[]=>none
 |v,i::p=>match v with
  | .agg cs=>match cs[i]? with
   |some c=>Mx hp c p
   |none=>none
  | .tup cs=>match cs[i]? with
   |some c=>Mx hp c p
   |none=>none
  | .fn _ cs=>match cs[i]? with
   |some c=>Mx hp c p
   |none=>none
  |v=>match refId v with
   |some id=>match p with
    | []=>some (id,i)
    |_::_=>match hp id with
     |some (.cells _ cs)=>match cs[i]? with
      |some c=>Mx hp c p
      |none=>none
     |some (.hol _ _ _ _ _ r)=>match i with
      |0=>Mx hp r p
      |_=>none
     |_=>none
   |none=>none
def bsOk(sz off z v ver len:Nat)(cs:List AV):Bool:=Nat.beq z sz&& (Nat.beq off 0&& (Nat.beq v ver&& (Nat.ble (len*sz) cs.length&& (cs.take (len*sz)).all immA)))
def cut1(st:St)(c:Bool)(id ver len:Nat):Option St:=
 match c with
 |false=>some st
 |true=>match lkb st.hp id with
  |some (.own v z xs)=>match Nat.beq v ver with
   |true=>some ⟨st.n,st.sl,pt st.hp id (.own v z (xs.take len)),st.nx⟩
   |false=>none
  |_=>none
def fz1(st:St)(k:Nat)(p:List Nat)(id ver sz len:Nat)(K:St→Prop):Prop:=
 match lkb st.hp id with
 |some (.own v z xs)=>match Nat.beq v ver&&Nat.beq z sz with
  |true=>len=xs.length∧K ⟨st.n,pt st.sl k (UY p (st.get k) (.sl z xs)),pt st.hp id (.own (v+4096) z []),st.nx⟩
  |false=>K st
 |_=>K st
def ghS(st:St)(k:Nat)(p:List Nat)(x:AV)(sz:Nat)(c:Bool):Option St:=
 match x with
 | .nil=>some ⟨st.n,pt st.sl k (UY p (st.get k) (.ow st.nx 0 sz 0)),pt st.hp st.nx (.own 0 sz []),st.nx+1⟩
 | .emp=>some ⟨st.n,pt st.sl k (UY p (st.get k) (.ow st.nx 0 sz 0)),pt st.hp st.nx (.own 0 sz []),st.nx+1⟩
 | .bs id ver z off len=>match lkb st.hp id with
  |some (.cells v cs)=>match bsOk sz off z v ver len cs with
   |true=>some ⟨st.n,pt st.sl k (UY p (st.get k) (.ow id ver sz len)),pt st.hp id (.own ver sz (KF sz len (cs.take (len*sz)))),st.nx⟩
   |false=>none
  |_=>none
 | .ow id ver _ len=>cut1 st c id ver len
 | .undef=>some st
 | .sl _ _=>some st
 |_=>none
def ghC(st:St)(bx i sz:Nat)(c:Bool):Option St:=
 match lkb st.hp bx with
 |some (.cells vb cb)=>match cb[i]? with
  |some x=>match x with
   | .nil=>some ⟨st.n,st.sl,pt (pt st.hp st.nx (.own 0 sz [])) bx (.cells vb (cb.set i (.ow st.nx 0 sz 0))),st.nx+1⟩
   | .emp=>some ⟨st.n,st.sl,pt (pt st.hp st.nx (.own 0 sz [])) bx (.cells vb (cb.set i (.ow st.nx 0 sz 0))),st.nx+1⟩
   | .bs id ver z off len=>match lkb st.hp id with
    |some (.cells v cs)=>match bsOk sz off z v ver len cs&& !Nat.beq bx id with
     |true=>some ⟨st.n,st.sl,pt (pt st.hp id (.own ver sz (KF sz len (cs.take (len*sz))))) bx (.cells vb (cb.set i (.ow id ver sz len))),st.nx⟩
     |false=>none
    |_=>none
   | .ow id ver _ len=>cut1 st c id ver len
   |_=>none
  |none=>none
 |_=>none
def gh1(st:St)(k:KB):Option St:=
 match k.own with
 |0=>some st
 |sz+1=>match WW k.path (st.get k.slot) with
  |some x=>ghS st k.slot k.path x (sz+1) k.cut
  |none=>match Mx (lkb st.hp) (st.get k.slot) k.path with
   |some (bx,j)=>ghC st bx j (sz+1) k.cut
   |none=>none
def fzC(st:St)(bx j:Nat)(K:St→Prop):Prop:=
 match lkb st.hp bx with
 |some (.cells vb cb)=>match cb[j]? with
  |some (.ow id ver sz len)=>match lkb st.hp id with
   |some (.own v z xs)=>match Nat.beq v ver&& (Nat.beq z sz&& !Nat.beq bx id) with
    |true=>len=xs.length∧K ⟨st.n,st.sl,pt (pt st.hp id (.own (v+4096) z [])) bx (.cells vb (cb.set j (.sl z xs))),st.nx⟩
    |false=>K st
   |_=>K st
  |_=>K st
 |_=>K st
def fzS(st:St)(k:KB)(K:St→Prop):Prop:=
 match WW k.path (st.get k.slot) with
 |some x=>match x with
  | .ow id ver sz len=>fz1 st k.slot k.path id ver sz len K
  | .ptr id ver off=>match lkb st.hp id with
   |some (.cells v cs)=>match Nat.beq v ver&& (Nat.blt 0 cs.length&&cs.all immA) with
    |true=>K ⟨st.n,pt st.sl k.slot (UY k.path (st.get k.slot) (.ip cs.length [.agg cs] 0 off)),pt st.hp id (.own (v+4096) 1 []),st.nx⟩
    |false=>False
   |_=>K st
  |_=>K st
 |none=>match Mx (lkb st.hp) (st.get k.slot) k.path with
  |some (bx,j)=>fzC st bx j K
  |none=>False
def KG:List KB→St→(St→Prop)→Prop
 | [],st,K=>K st
 |k::ks,st,K=>match k.fz with
  |true=>fzS st k (fun s=>KG ks s K)
  |false=>match gh1 st k with
   |some st'=>KG ks st' K
   |none=>False
theorem Bx{sz off z v ver len:Nat}{cs:List AV}(h:bsOk sz off z v ver len cs=true):z=sz∧off=0∧v=ver∧len*sz≤cs.length∧(cs.take (len*sz)).all immA=true:=by
 simp_all [bsOk,cqb,cqa,cqe]
theorem Q37{gl:Nat→AV}{st st':St}{c:Bool}{id ver len:Nat}(h:cut1 st c id ver len=some st'):Conv gl st st':=by
 unfold cut1 at h;split at h;·cases h;exact .refl
 grind [Q8p,id]
theorem ghS_ok{gl:Nat→AV}{st st':St}{k:Nat}{p:List Nat}{x:AV}{sz:Nat}{c:Bool}(a3:0<sz)(hi:WW p (st.get k)=some x)(h:ghS st k p x sz c=some st'):Conv gl st st':=by
 unfold ghS at h;split at h;·cases h;exact PC k p sz _ a3 hi rfl
 ·cases h;exact PC k p sz _ a3 hi rfl
 ·rename_i id ver z off len;split at h
  ·rename_i v cs a6;split at h
   ·rename_i hc;cases h;obtain⟨rfl,rfl,rfl,h1,h2⟩:=Bx hc
    grind [Ry,id]
   ·cases h
  ·cases h
 ·exact Q37 h
 ·cases h;exact .refl
 ·cases h;exact .refl
 ·cases h
theorem ghC_ok{gl:Nat→AV}{st st':St}{bx i sz:Nat}{c:Bool}(a3:0<sz)(h:ghC st bx i sz c=some st'):Conv gl st st':=by
 unfold ghC at h;split at h
 ·rename_i vb cb hb;split at h
  ·rename_i x hx;split at h;·cases h;exact PB bx i sz vb cb _ a3 hb hx rfl
   ·cases h;exact PB bx i sz vb cb _ a3 hb hx rfl
   ·rename_i id ver z off len;split at h
    ·rename_i v cs a5;split at h
     ·rename_i hc;cases h;rw[cqb] at hc;obtain⟨rfl,rfl,rfl,h1,h2⟩:=Bx hc.1;exact Bz bx i id _ vb _ len cb cs a3 (fun e=>by simp_all) hb hx a5 h1 h2
     ·cases h
    ·cases h
   ·exact Q37 h
   ·cases h
  ·cases h
 ·cases h
theorem gh1_ok{gl:Nat→AV}{st st':St}{k:KB}(h:gh1 st k=some st'):Conv gl st st':=by
 unfold gh1 at h;split at h;·cases h;exact .refl
 ·split at h;·rename_i x hx;exact ghS_ok (Nat.succ_pos _) hx h
  ·split at h;·exact ghC_ok (Nat.succ_pos _) h
   ·cases h
theorem fzS_ok{gl:Nat→AV}{st:St}{k:KB}{K:St→Prop}(h:fzS st k K):∃st',Conv gl st st'∧K st':=by
 unfold fzS at h;split at h
 ·rename_i x hx;split at h
  ·rename_i id ver z len;unfold fz1 at h;split at h
   ·rename_i v z' xs a4;split at h
    ·rename_i hv;rw[cqb] at hv;obtain rfl:=cqa hv.1;obtain rfl:=cqa hv.2
     grind [Q2a,id]
    ·exact⟨st,.refl,h⟩
   ·exact⟨st,.refl,h⟩
  ·rename_i id ver off;split at h
   ·rename_i v cs a4;split at h
    ·rename_i hv;simp only[cqb] at hv;obtain rfl:=cqa hv.1;exact⟨_,BB k.slot k.path id v off cs hx a4 (cqe hv.2.1) hv.2.2,h⟩
    ·cases h
   ·exact⟨st,.refl,h⟩
  ·exact⟨st,.refl,h⟩
 ·split at h
  ·rename_i bx j _;unfold fzC at h;split at h
   ·rename_i vb cb a5;split at h
    ·rename_i id ver sz len hk;split at h
     ·rename_i v z xs a4;split at h
      ·rename_i hv;simp only[cqb,Bool.not_eq_true'] at hv;obtain rfl:=cqa hv.1;obtain rfl:=cqa hv.2.1;exact⟨_,BA bx j id v vb z len cb xs (Nat.ne_of_beq_eq_false hv.2.2) a5 hk a4 h.1,h.2⟩
      ·exact⟨st,.refl,h⟩
     ·exact⟨st,.refl,h⟩
    ·exact⟨st,.refl,h⟩
   ·exact⟨st,.refl,h⟩
  ·cases h
theorem Yk{gl:Nat→AV}:∀ {ks:List KB} {st:St} {K:St→Prop},KG ks st K→∃st',Conv gl st st'∧K st'
 | [],st,K,h=>⟨st,.refl,h⟩
 |k::ks,st,K,h=>by
  simp only[KG] at h;split at h
  ·obtain⟨s1,h1,h2⟩:=fzS_ok (gl:=gl) h;obtain⟨s2,h3,h4⟩:=Yk h2;exact⟨s2,h1.trans h3,h4⟩
  ·split at h
   ·rename_i s1 h1;obtain⟨s2,h3,h4⟩:=Yk h;exact⟨s2,(gh1_ok h1).trans h3,h4⟩
   ·cases h
def HD(hp:Hp):AV→List Nat→Option Nat
 |v,[]=>refId v
 |v,i::p=>match v with
  | .agg cs=>match cs[i]? with
   |some c=>HD hp c p
   |none=>none
  | .tup cs=>match cs[i]? with
   |some c=>HD hp c p
   |none=>none
  | .fn _ cs=>match cs[i]? with
   |some c=>HD hp c p
   |none=>none
  |v=>match refId v with
   |some id=>match hp id with
    |some (.cells _ cs)=>match cs[i]? with
     |some c=>HD hp c p
     |none=>none
    |some (.hol _ _ _ _ _ r)=>match i with
     |0=>HD hp r p
     |_=>none
    |_=>none
   |none=>none
def V3(st:St):List KB→List Nat
 | []=>[]
 |k::r=>match k.fz with
  |true=>V3 st r
  |false=>match HD (lkb st.hp) (st.get k.slot) k.path with
   |some id=>id::V3 st r
   |none=>V3 st r
def idxN:List Nat→Nat→Option Nat
 | [],_=>none
 |k::r,id=>match Nat.beq k id with
  |true=>some 0
  |false=>match idxN r id with
   |some j=>some (j+1)
   |none=>none
def nodN:List Nat→Bool
 | []=>true
 |k::r=>match idxN r k with
  |some _=>false
  |none=>nodN r
def curV(hp:Hp)(id ver:Nat):Option Nat:=match hp id with
 |some (.cells v _)=>match Nat.beq v ver with
  |true=>some (v%4096)
  |false=>none
 |some (.own v _ _)=>match Nat.beq v ver with
  |true=>some 0
  |false=>none
 |some (.hol v _ _ _ _ _)=>match Nat.beq v ver with
  |true=>some 0
  |false=>none
 |some (.mapI _)=>some 0
 |_=>none
def mapR(g:Nat→Nat→Option (Nat×Nat)):Nat→AV→AV
 |0,_=>.undef
 |k+1,v=>match v with
  | .ptr id ver off=>match g id ver with
   |some (j,t)=>.ptr j t off
   |none=>.undef
  | .bs id ver sz off len=>match g id ver with
   |some (j,t)=>.bs j t sz off len
   |none=>.undef
  | .ow id ver sz len=>match g id ver with
   |some (j,t)=>.ow j t sz len
   |none=>.undef
  | .oe id ver sz i off=>match g id ver with
   |some (j,t)=>.oe j t sz i off
   |none=>.undef
  | .yld _=>.undef
  | .mp id=>match g id 0 with
   |some (j,_)=>.mp j
   |none=>.undef
  | .agg cs=>.agg (cs.map (mapR g k))
  | .tup cs=>.tup (cs.map (mapR g k))
  | .fn f cs=>.fn f (cs.map (mapR g k))
  |v=>v
def gR(hp:Hp)(ids:List Nat)(id ver:Nat):Option (Nat×Nat):=
 match idxN ids id with
 |some j=>match curV hp id ver with
  |some t=>some (j,t)
  |none=>none
 |none=>none
abbrev ren(hp:Hp)(ids:List Nat):Nat→AV→AV:=mapR (gR hp ids)
def renB(hp:Hp)(ids:List Nat):Box→Option Box
 | .cells ver cs=>some (.cells (ver%4096) (cs.map (ren hp ids 12)))
 | .own _ sz xs=>some (.own 0 sz xs)
 | .hol _ sz xs i c r=>some (.hol 0 sz xs i c (ren hp ids 12 r))
 | .mapI es=>some (.mapI es)
 |_=>none
def EB(hp:Hp)(all:List Nat):List Nat→Option (List Box)
 | []=>some []
 |id::r=>match hp id with
  |some b=>match renB hp all b with
   |some b'=>match EB hp all r with
    |some l=>some (b'::l)
    |none=>none
   |none=>none
  |none=>none
def Ba(hp:Hp)(ids:List Nat):AV→Bool
 | .ptr id ver _=>match idxN ids id with
  |some j=>match curV hp id ver with
   |some t=>Nat.beq j id&&Nat.beq t ver
   |none=>false
  |none=>false
 | .mp id=>match idxN ids id with
  |some j=>match hp id with
   |some (.mapI _)=>Nat.beq j id
   |_=>false
  |none=>false
 | .undef=>true
 | .agg cs=>cs.all immA
 |v=>immA v
def UE(pins:List AV)(ks:List Nat)(kb:List KB)(st:St)(K:List AV→List Box→Prop):Prop:=
 match nodN (V3 st kb)&&pins.all (Ba (lkb st.hp) (V3 st kb)) with
 |true=>match EB (lkb st.hp) (V3 st kb) (V3 st kb) with
  |some bs=>K (ks.map fun k=>ren (lkb st.hp) (V3 st kb) 12 (st.get k)) bs
  |none=>False
 |false=>False
def slOf:List Nat→List AV→Tr AV
 |k::ks,v::vs=>pt (slOf ks vs) k v
 |_,_=>.nil
def hpOf:Nat→List Box→Tr Box
 |_,[]=>.nil
 |j,b::r=>pt (hpOf (j+1) r) j b
def ZX(n:Nat)(ks:List Nat)(vs:List AV)(bs:List Box):St:=⟨n,slOf ks vs,hpOf 0 bs,bs.length⟩
theorem BR{α:Type}(d:α)(k:Nat):lk d .nil k=d:=by unfold lk;cases path k<;>rfl
theorem Nf:∀(bs:List Box) (j k:Nat),lkb (hpOf j bs) k=if j≤k then bs[k - j]? else none
 | [],j,k=>by simp[hpOf,ZD]
 |b::r,j,k=>by
  simp only[hpOf,QV];by_cases h:k=j
  ·simp_all [Qn]
  ·rw[Qz _ _ h,Nf r (j+1) k]
   grind
theorem RI:∀ {ids:List Nat} {id j:Nat},idxN ids id=some j→ids[j]? =some id
 |k::r,id,j,h=>by
  simp only[idxN] at h;split at h
  ·grind [hk,cqa]
  ·split at h;·rename_i j' hj;cases h;simpa using RI hj
   ·cases h
theorem RH:∀ {ids:List Nat} {id:Nat},idxN ids id=none→∀(j:Nat),ids[j]? ≠some id
 | [],id,_,j=>by simp
 |k::r,id,h,j=>by
  simp only[idxN] at h;split at h;·cases h
  ·rename_i hk;split at h;·cases h
   ·rename_i hn;cases j with
    |zero=>intro e;simp_all
    |succ j=>rw[List.getElem?_cons_succ];exact RH hn j
theorem Eo:∀ {ids:List Nat},nodN ids=true→∀ {i j id:Nat},ids[i]? =some id→ids[j]? =some id→i=j
 | [],_,i,j,id,hi,_=>by simp at hi
 |k::r,h,i,j,id,hi,hj=>by
  simp only[nodN] at h;split at h;·cases h
  ·rename_i hn;cases i with
   |zero=>
    grind [List.getElem?_cons_zero,cqf,List.getElem?_cons_succ,absurd,RH]
   |succ i=>
    cases j with
    |zero=>
     simp_all [List.getElem?_cons_zero,cqf,List.getElem?_cons_succ,absurd,RH]
    |succ j=>
     rw[List.getElem?_cons_succ] at hi hj;rw[Eo h hi hj]
def Box.mark:Box→Nat
 | .cells v _=>v%4096
 |_=>0
theorem curV_ok{hp:Hp}{id ver t:Nat}(h:curV hp id ver=some t):(∃b,hp id=some b∧b.ver? =some ver∧b.mark=t)∨∃es,hp id=some (.mapI es):=by
 unfold curV at h;split at h
 ·rename_i v cs hh;split at h;·rename_i hv;cases h;obtain rfl:=cqa hv;exact .inl ⟨_,hh,rfl,rfl⟩
  ·cases h
 ·rename_i v sz xs hh;split at h;·rename_i hv;cases h;obtain rfl:=cqa hv;exact .inl ⟨_,hh,rfl,rfl⟩
  ·cases h
 ·rename_i v sz xs i c r hh;split at h;·rename_i hv;cases h;obtain rfl:=cqa hv;exact .inl ⟨_,hh,rfl,rfl⟩
  ·cases h
 ·simp_all
 ·cases h
theorem Pg{H:HV}{E E':Env}{g:Nat→Nat→Option (Nat×Nat)}(hg:∀id ver j t,g id ver=some (j,t)→E'.al j t∧(∀l,E'.loc j t=some l→E.loc id ver=some l)∧∀l,E.lp id=some l→E'.lp j=some l):∀(k:Nat) (v:AV) (u:Value),RV H E v u→RV H E' (mapR g k v) u
 |0,_,_,_=>.imm _ _ (.undef _)
 |k+1,v,u,h=>by
  have ih:=Pg (H:=H) hg k;cases v with
  |ptr id ver off=>
   simp only[mapR];split
   ·rename_i j t hj;obtain⟨a,rfl,_,a3⟩:=h.ptr_inv;obtain⟨h1,h2,_⟩:=hg id ver j t hj;exact .ptr _ _ _ _ h1 fun l hl=>a3 l (h2 l hl)
   ·exact .imm _ _ (.undef _)
  |bs id ver sz off len=>
   simp only[mapR];split
   ·rename_i j t hj;obtain⟨a,cap,rfl,_,hl,hm,a3⟩:=h.bs_inv;obtain⟨h1,h2,_⟩:=hg id ver j t hj;exact .bs _ _ _ _ _ _ _ h1 hl hm fun l hl=>a3 l (h2 l hl)
   ·exact .imm _ _ (.undef _)
  |ow id ver sz len=>
   simp only[mapR];split
   ·rename_i j t hj;obtain⟨a,cap,rfl,_,hl,hm,aa,a3⟩:=h.ow_inv;obtain⟨h1,h2,_⟩:=hg id ver j t hj;exact .ow _ _ _ _ _ _ h1 hl hm aa fun l hl=>a3 l (h2 l hl)
   ·exact .imm _ _ (.undef _)
  |oe id ver sz i off=>
   simp only[mapR];split
   ·rename_i j t hj;obtain⟨a,rfl,_,a3⟩:=h.oe_inv;obtain⟨h1,h2,_⟩:=hg id ver j t hj;exact .oe _ _ _ _ _ _ h1 fun l hl=>a3 l (h2 l hl)
   ·exact .imm _ _ (.undef _)
  |yld id=>exact .imm _ _ (.undef _)
  |mp id=>
   simp only[mapR];split
   ·rename_i j t hj;obtain⟨l,rfl,hl⟩:=h.mp_inv;exact .mp _ _ ((hg id 0 j t hj).2.2 l hl)
   ·exact .imm _ _ (.undef _)
  |agg cs=>
   obtain⟨vs,rfl,hl,h1,hc⟩:=h.agg_inv;refine .agg _ vs (by simp_all) h1 fun j c v hj hv=> ?_
   grind
  |tup cs=>
   obtain⟨vs,rfl,hl,hc⟩:=h.tup_inv;refine .tup _ vs (by simp_all) fun j c v hj hv=> ?_
   grind
  |fn f cs=>
   obtain⟨vs,rfl,hl,hc⟩:=h.fn_inv;refine .fn f _ vs (by simp_all) fun j c v hj hv=> ?_
   grind
  |_=>cases h with | imm _ _ h=>exact .imm _ _ h
section
variable {hp : Hp} {ids : List Nat} {m m' : Nat → Lc} {H : HV} {hp' : Hp}
theorem gR_inv{id ver j t:Nat}(h:gR hp ids id ver=some (j,t)):idxN ids id=some j∧curV hp id ver=some t:=by
 grind [gR]
theorem ren_ok(a8:∀(j id:Nat) (b:Box) (ver:Nat),ids[j]? =some id→hp id=some b→b.ver? =some ver→m' j=m id∧∃b',hp' j=some b'∧b'.ver? =some b.mark)(a9:∀(j id:Nat) (es:List (List UInt8×Int)),ids[j]? =some id→hp id=some (.mapI es)→m' j=m id∧∃a5,hp' j=some (.mapI a5))
  (k:Nat) (v:AV) (u:Value) (h:RV H (Q6 hp m) v u):RV H (Q6 hp' m') (ren hp ids k v) u:=
 Pg (fun id ver j t hg=>by
  obtain⟨hj,hc⟩:=gR_inv hg;rcases curV_ok hc with⟨b,hb,hv,ht⟩ | ⟨es,hb⟩
  ·obtain⟨hm,b',a3,a6⟩:=a8 j id b ver (RI hj) hb hv;rw[ht] at a6;refine⟨OX a3 a6,fun l hl=> ?_,fun l hl=> ?_⟩
   ·simp_all [Je]
   ·simp only[Q6,hb] at hl;cases b<;>first | grind | (cases hv;done)
  ·obtain⟨hm,a5,a3⟩:=a9 j id es (RI hj) hb;refine⟨⟨_,a3,fun v hv=>by cases hv⟩,fun l hl=> ?_,fun l hl=> ?_⟩
   ·simp only[Q6,a3] at hl;cases hl
   simp_all [Q6,cqf]) k v u h
theorem EC{all:List Nat}:∀ {ids:List Nat} {bs:List Box},EB hp all ids=some bs→bs.length=ids.length∧∀(j id:Nat),ids[j]? =some id→∃b b',hp id=some b∧renB hp all b=some b'∧bs[j]? =some b'
 | [],bs,h=>by cases h;simp_all
 |id0::r,bs,h=>by
  simp only[EB] at h;split at h
  ·rename_i b hb;split at h
   ·rename_i b' a3;split at h
    ·rename_i l hl;cases h;obtain⟨h1,h2⟩:=EC hl
     grind
    ·cases h
   ·cases h
  ·cases h
theorem EA{b b':Box}(h:renB hp ids b=some b'):(∃ver cs,b= .cells ver cs∧b'= .cells (ver%4096) (cs.map (ren hp ids 12)))∨(∃ver sz xs,b= .own ver sz xs∧b'= .own 0 sz xs)∨(∃ver sz xs i c r,b= .hol ver sz xs i c r∧b'= .hol 0 sz xs i c (ren hp ids 12 r))∨∃es,b= .mapI es∧b'= .mapI es:=by
 cases b<;>simp only[renB,cqf,reduceCtorEq] at h
 ·grind
 ·grind
 ·grind
 grind
theorem Ik{b b':Box}(h:renB hp ids b=some b'):(∀v,b.ver? =some v→b'.ver? =some b.mark)∧(∀es,b= .mapI es→b'= .mapI es)∧∀l,Real b' l↔Real b l:=by
 rcases EA h with⟨v,cs,rfl,rfl⟩ | ⟨v,sz,xs,rfl,rfl⟩ | ⟨v,sz,xs,i,c,r,rfl,rfl⟩ | ⟨es,rfl,rfl⟩
 ·exact⟨fun _ _=>rfl,nofun,fun l=>Iff.rfl⟩
 ·exact⟨fun _ _=>rfl,nofun,fun l=>Iff.rfl⟩
 ·exact⟨fun _ _=>rfl,nofun,fun l=>Iff.rfl⟩
 ·exact⟨nofun,fun _ h=>h,fun l=>Iff.rfl⟩
end
section
variable {m : Nat → Lc} {H : HV} {B : Nat → Prop} {H0 : HV} {gl : Nat → AV} {rest : List (AV × Value)} {st : St} {tmps : Array Value} {w : World}
theorem RelH.sub{hp:Hp}{nx:Nat}{B':Nat→Prop}{H1:HV}(h:RelH m H B H0 gl hp nx w){ids:List Nat}{bs:List Box}(hn:nodN ids=true)(au:EB hp ids ids=some bs)
  (hold:∀b o,B' b→H b o=H1 b o) (af:∀b,B' b→b<w.heap.size) (bb:∀(j id:Nat) (b:Box),ids[j]? =some id→hp id=some b→Real b (m id)→¬B' (m id).g) (aw:GvOk gl B' w):
  RelH (fun j=>m ((ids[j]?).getD 0)) H B' H1 gl (lkb (hpOf 0 bs)) bs.length w∧∀(k:Nat) (v:AV) (u:Value),RV H (Q6 hp m) v u→RV H (Q6 (lkb (hpOf 0 bs)) fun j=>m ((ids[j]?).getD 0)) (ren hp ids k v) u:=by
 obtain⟨b8,a9⟩:=EC au;have ae:∀j,lkb (hpOf 0 bs) j=bs[j]? :=fun j=>by rw[Nf];simp
 have a4:∀j b',lkb (hpOf 0 bs) j=some b'→∃id b,ids[j]? =some id∧hp id=some b∧renB hp ids b=some b':=fun j b' hj=>by
  rw[ae] at hj;have ax:j<ids.length:=by grind
  obtain⟨b,b2,h1,h2,h3⟩:=a9 j _ (cqc ax)
  simp_all
 have hm:∀(j id:Nat),ids[j]? =some id→m ((ids[j]?).getD 0)=m id:=fun j id hj=>by grind
 have aa:∀(k:Nat) (v:AV) (u:Value),RV H (Q6 hp m) v u→RV H (Q6 (lkb (hpOf 0 bs)) fun j=>m ((ids[j]?).getD 0)) (ren hp ids k v) u:=ren_ok (fun j id b ver hj hb hv=>by
  grind [id,Ik]) fun j id es hj hb=>by
  obtain⟨b0,b',h1,h2,h3⟩:=a9 j id hj;rw[hb] at h1;cases h1;exact⟨hm j id hj,es,by rw[ae,h3,(Ik h2).2.1 es rfl]⟩
 refine⟨{sat:=h.sat,old:=hold,low:=af,fresh:=fun j hj=> ?_,box:=fun j b' hj=> ?_,sepR:=fun j b' hj hr=> ?_,injR:=fun i j b1 b2 h1 h2 r1 r2 he=> ?_,gv:=aw,gl:=h.gl,ty:=fun j v cs hj=> ?_},aa⟩
 ·simp_all
 ·obtain⟨id,b,a6,hb,a7⟩:=a4 j b' hj;rw[hm j id a6];have a8:=h.box id b hb;rcases EA a7 with⟨v,cs,rfl,rfl⟩ | ⟨v,sz,xs,rfl,rfl⟩ | ⟨v,sz,xs,i0,c0,r0,rfl,rfl⟩ | ⟨es,rfl,rfl⟩
  ·obtain⟨C,e,c1,c2,c3,c4⟩:=a8;refine⟨C,e,c1,c2,by simp_all,fun i c hc=> ?_⟩
   grind
  ·exact a8
  ·obtain⟨d1,d2,d3,d4,d5,C,e,c1,c2,c3,c4,u,b1,b2,b3⟩:=a8;exact⟨d1,d2,d3,d4,d5,C,e,c1,c2,c3,c4,u,b1,b2,aa 12 _ u b3⟩
  ·obtain⟨A,c,a1,a2,a3⟩:=a8;refine⟨A,c,a1,a2,fun q k x e hq hA=> ?_⟩
   obtain⟨a,d⟩:=a3 q k x e hq hA;obtain⟨p,_,hp⟩:=List.mem_map.1 (cqr hq);cases hp;exact⟨a,by cases d with | imm _ _ d=>exact .imm _ _ d⟩
 ·obtain⟨id,b,a6,hb,a7⟩:=a4 j b' hj;rw[hm j id a6] at hr ⊢;have ay:=((Ik a7).2.2 _).1 hr;obtain⟨_,y,z⟩:=h.sepR id b hb ay
  grind
 ·obtain⟨ag,am,hi,aq,az⟩:=a4 i b1 h1;obtain⟨ah,an,hj,ar,b4⟩:=a4 j b2 h2;rw[hm i ag hi] at r1 he;rw[hm j ah hj] at r2 he;have:=h.injR ag ah am an aq ar (((Ik az).2.2 _).1 r1) (((Ik b4).2.2 _).1 r2) he
  grind [Eo]
 ·obtain⟨id,b,a6,hb,a7⟩:=a4 j _ hj;rw[hm j id a6];rcases EA a7 with⟨v0,bl,rfl,he⟩ | ⟨v0,sz,xs,rfl,he⟩ | ⟨v0,sz,xs,i0,c0,r0,rfl,he⟩ | ⟨es,rfl,he⟩
  ·cases he;have:=h.ty id _ _ hb
   simp_all [TyOk,Nat.mod_mod]
  ·cases he
  ·cases he
  ·cases he
theorem Ac:∀(ks:List Nat) (f:Nat→AV) (k:Nat),lk .undef (slOf ks (ks.map f)) k= .undef∨lk .undef (slOf ks (ks.map f)) k=f k
 | [],f,k=>.inl (BR _ _)
 |a::ks,f,k=>by
  simp only[List.map_cons,slOf];rw[UX];by_cases h:a=k
  ·simp_all
  ·rw[if_neg h];exact Ac ks f k
theorem BU{g:Nat→Nat→Option (Nat×Nat)}{k:Nat}{v:AV}(h:immA v=true):mapR g (k+1) v=v:=by
 cases v<;>first | rfl | (cases h;done) | skip
 rename_i f cs;have:cs=[]:=by simp_all [immA]
 subst this;rfl
theorem Q3p{hp:Hp}{ids:List Nat}{p:AV}(h:Ba hp ids p=true):ren hp ids 12 p=p:=by
 unfold Ba at h;split at h
 ·rename_i id ver off;split at h
  ·rename_i j hj;split at h
   ·rename_i t ht;rw[cqb] at h;obtain rfl:=cqa h.1;obtain rfl:=cqa h.2
    simp_all [ren,mapR,gR]
   ·cases h
  ·cases h
 ·rename_i id;split at h
  ·rename_i j hj;split at h
   ·rename_i es hb;obtain rfl:=cqa h
    simp_all [ren,mapR,gR,curV]
   ·cases h
  ·cases h
 ·rfl
 ·rename_i cs;show AV.agg (cs.map (mapR (gR hp ids) 11))=_;congr 1;have:∀x∈cs,mapR (gR hp ids) 11 x=x:=fun x hx=>BU (cqt.1 h x hx)
  exact(List.map_congr_left this).trans (List.map_id _)
 ·exact BU h
theorem UL{pins:List AV}{ks:List Nat}{kb:List KB}{K:List AV→List Box→Prop}(h:RelS m H B H0 gl rest st tmps w)(hp:rest.map (·.1)=pins)(hw:UE pins ks kb st K):∃vs bs m',K vs bs∧RelS m' H B H0 gl rest (ZX st.n ks vs bs) tmps w:=by
 unfold UE at hw;split at hw
 ·rename_i hc;rw[cqb] at hc;split at hw
  ·rename_i bs a6;obtain⟨h1,a3⟩:=h.heap.sub hc.1 a6 h.heap.old h.heap.low (fun j id b _ hb hr=>(h.heap.sepR id b hb hr).1) h.heap.gv
   refine⟨_,bs,_,hw,h1,h.size,fun k=> ?_,fun p hp'=> ?_⟩
   ·show RV H _ (lk .undef (slOf ks (ks.map fun k=>ren (lkb st.hp) (V3 st kb) 12 (st.get k))) k) _
    rcases Ac ks (fun k=>ren (lkb st.hp) (V3 st kb) 12 (st.get k)) k with e | e
    ·rw[e];exact .imm _ _ (.undef _)
    ·rw[e];exact a3 12 _ _ (h.slot k)
   ·have a5:=cqt.1 hc.2 p.1 (by grind)
    have:=a3 12 p.1 p.2 (h.rest p hp');rw[Q3p a5] at this;exact this
  ·cases hw
 ·cases hw
end
def MN(hp:Hp):List Nat→List Box→Nat→Option (List (Nat×Nat))
 | [],[],_=>some []
 | [],b::bs,nx=>match b.ver? with
  |some v=>match MN hp [] bs (nx+1) with
   |some l=>some ((nx,v)::l)
   |none=>none
  |none=>none
 |_::_,[],_=>none
 |id::ids,b::bs,nx=>match hp id with
  |some (.cells v _)=>match b with
   | .cells t _=>match Nat.beq (v%4096) t with
    |true=>match MN hp ids bs nx with
     |some l=>some ((id,v)::l)
     |none=>none
    |false=>none
   |_=>none
  |some (.own v _ _)=>match b with
   | .own _ _ _=>match MN hp ids bs nx with
    |some l=>some ((id,v+4096)::l)
    |none=>none
   |_=>none
  |some (.mapI _)=>match b with
   | .mapI _=>match MN hp ids bs nx with
    |some l=>some ((id,0)::l)
    |none=>none
   |_=>none
  |_=>none
def gB(ps:List (Nat×Nat))(bs:List Box)(j t:Nat):Option (Nat×Nat):=
 match ps[j]? with
 |some p=>match bs[j]? with
  |some b=>match b.ver? with
   |some v=>match Nat.beq v t with
    |true=>some p
    |false=>none
   |none=>match b with
    | .mapI _=>some p
    |_=>none
  |none=>none
 |none=>none
def unB(g:Nat→Nat→Option (Nat×Nat))(ver:Nat):Box→Box
 | .cells _ cs=>.cells ver (cs.map (mapR g 12))
 | .own _ sz xs=>.own ver sz xs
 | .hol _ sz xs i c r=>.hol ver sz xs i c (mapR g 12 r)
 |b=>b
def Db(g:Nat→Nat→Option (Nat×Nat))(t:Tr Box):List (Nat×Nat)→List Box→Tr Box
 | (id,ver)::ps,b::bs=>pt (Db g t ps bs) id (unB g ver b)
 |_,_=>t
structure T6 (hp:Hp) (ids:List Nat) (bs:List Box) (nx:Nat) (ps:List (Nat×Nat)) (j id ver:Nat) (b:Box):Prop where
 here:(∃v cs t cs',ids[j]? =some id∧hp id=some (.cells v cs)∧b= .cells t cs'∧ver=v∧v%4096=t)∨(∃v sz xs v' sz' xs',ids[j]? =some id∧hp id=some (.own v sz xs)∧b= .own v' sz' xs'∧ver=v+4096)∨(∃es es',ids[j]? =some id∧hp id=some (.mapI es)∧b= .mapI es'∧ver=0)∨(ids.length≤j∧id=nx+(j - ids.length)∧b.ver? =some ver)
theorem NX{hp:Hp}:∀ {ids:List Nat} {bs:List Box} {nx:Nat} {ps:List (Nat×Nat)},MN hp ids bs nx=some ps→ps.length=bs.length∧ids.length≤bs.length∧∀(j id ver:Nat) (b:Box),ps[j]? =some (id,ver)→bs[j]? =some b→T6 hp ids bs nx ps j id ver b
 | [],[],nx,ps,h=>by cases h;exact⟨rfl,Nat.le_refl _,fun j id ver b hj=>by simp at hj⟩
 | [],b0::bs,nx,ps,h=>by
  simp only[MN] at h;split at h
  ·rename_i v hv;split at h
   ·rename_i l hl;cases h;obtain⟨h1,h2,h3⟩:=NX hl;refine⟨by simp[h1],by simp,fun j id ver b hj hb=> ?_⟩
    cases j with
    |zero=>simp at hj hb;obtain⟨rfl,rfl⟩:=hj;subst hb;exact⟨.inr (.inr (.inr ⟨by simp,by simp,hv⟩))⟩
    |succ j=>
     rw[List.getElem?_cons_succ] at hj hb;rcases(h3 j id ver b hj hb).here with⟨_,_,_,_,e,_⟩ | ⟨_,_,_,_,_,_,e,_⟩ | ⟨_,_,e,_⟩ | ⟨a1,a2,a3⟩
     ·simp at e
     ·simp at e
     ·simp at e
     ·exact⟨.inr (.inr (.inr ⟨by simp,by simp at a2 ⊢;omega,a3⟩))⟩
   ·cases h
  ·cases h
 |_::_,[],nx,ps,h=>by cases h
 |a9::ids,b0::bs,nx,ps,h=>by
  have go:∀(p:Nat×Nat) (l:List (Nat×Nat)),MN hp ids bs nx=some l→T6 hp (a9::ids) (b0::bs) nx (p::l) 0 p.1 p.2 b0→
    (p::l).length=(b0::bs).length∧(a9::ids).length≤(b0::bs).length∧∀(j id ver:Nat) (b:Box),(p::l)[j]? =some (id,ver)→(b0::bs)[j]? =some b→T6 hp (a9::ids) (b0::bs) nx (p::l) j id ver b:=by
   intro p l hl h0;obtain⟨h1,h2,h3⟩:=NX hl;refine⟨by simp[h1],by simp;omega,fun j id ver b hj hb=> ?_⟩
   cases j with
   |zero=>simp at hj hb;subst hj;subst hb;exact h0
   |succ j=>
    rw[List.getElem?_cons_succ] at hj hb;rcases(h3 j id ver b hj hb).here with⟨v,cs,t,cs',e1,e2,e3,e4,e5⟩ | ⟨v,sz,xs,v',aa,ab,e1,e2,e3,e4⟩ | ⟨es,a8,e1,e2,e3,e4⟩ | ⟨a1,a2,a3⟩
    ·exact⟨.inl ⟨v,cs,t,cs',by simpa using e1,e2,e3,e4,e5⟩⟩
    ·exact⟨.inr (.inl ⟨v,sz,xs,v',aa,ab,by simpa using e1,e2,e3,e4⟩)⟩
    ·exact⟨.inr (.inr (.inl ⟨es,a8,by simpa using e1,e2,e3,e4⟩))⟩
    ·exact⟨.inr (.inr (.inr ⟨by simp;omega,by simp at a2 ⊢;omega,a3⟩))⟩
  simp only[MN] at h;split at h
  ·rename_i v cs a4;split at h
   ·rename_i t cs';split at h
    ·rename_i hv;split at h
     ·rename_i l hl;cases h;exact go _ _ hl ⟨.inl ⟨v,cs,t,cs',rfl,a4,rfl,rfl,cqa hv⟩⟩
     ·cases h
    ·cases h
   ·cases h
  ·rename_i v sz xs a4;split at h
   ·rename_i v' aa ab;split at h
    ·rename_i l hl;cases h;exact go _ _ hl ⟨.inr (.inl ⟨v,sz,xs,v',aa,ab,rfl,a4,rfl,rfl⟩)⟩
    ·cases h
   ·cases h
  ·rename_i es a4;split at h
   ·rename_i a8;split at h
    ·rename_i l hl;cases h;exact go _ _ hl ⟨.inr (.inr (.inl ⟨es,a8,rfl,a4,rfl,rfl⟩))⟩
    ·cases h
   ·cases h
  ·cases h
theorem PX{g:Nat→Nat→Option (Nat×Nat)}{t:Tr Box}:∀ {ps:List (Nat×Nat)} {bs:List Box},(∀(i j id v v':Nat),ps[i]? =some (id,v)→ps[j]? =some (id,v')→i=j)→∀(j id ver:Nat) (b:Box),ps[j]? =some (id,ver)→bs[j]? =some b→lkb (Db g t ps bs) id=some (unB g ver b)
 | [],_,_,j,id,ver,b,hj,_=>by simp at hj
 |_::_,[],_,j,id,ver,b,_,hb=>by simp at hb
 | (id0,v0)::ps,b0::bs,hinj,j,id,ver,b,hj,hb=>by
  simp only[Db];rw[QV];cases j with
  |zero=>simp at hj hb;obtain⟨rfl,rfl⟩:=hj;subst hb;rw[Qn]
  |succ j=>
   have a3:id≠id0:=fun e=>by
    subst e;have:=hinj 0 (j+1) id v0 ver rfl hj;omega
   rw[Qz _ _ a3];exact PX (fun i j id v v' h1 h2=>by have:=hinj (i+1) (j+1) id v v' (by simpa using h1) (by simpa using h2);omega) j id ver b (by simpa using hj) (by simpa using hb)
theorem Fc{g:Nat→Nat→Option (Nat×Nat)}{t:Tr Box}:∀ {ps:List (Nat×Nat)} {bs:List Box} {id:Nat},(∀(j v:Nat),ps[j]? ≠some (id,v))→lkb (Db g t ps bs) id=lkb t id
 | [],_,_,_=>by simp[Db]
 |_::_,[],_,_=>by simp[Db]
 | (id0,v0)::ps,b0::bs,id,h=>by
  simp only[Db];have a3:id≠id0:=fun e=>h 0 v0 (by simp[e])
  rw[QV,Qz _ _ a3];exact Fc fun j v hj=>h (j+1) v (by simpa using hj)
theorem T6.ver{hp:Hp}{ids:List Nat}{bs:List Box}{nx:Nat}{ps:List (Nat×Nat)}{j id ver:Nat}{b:Box}(h:T6 hp ids bs nx ps j id ver b):(∃v,b.ver? =some v)∨∃es,b= .mapI es:=by
 rcases h.here with⟨v,cs,t,cs',e1,e2,rfl,e4,e5⟩ | ⟨v,sz,xs,v',a7,a8,e1,e2,rfl,e4⟩ | ⟨es,a6,e1,e2,e3,e4⟩ | ⟨a1,a2,a3⟩
 ·exact .inl ⟨_,rfl⟩
 ·exact .inl ⟨_,rfl⟩
 ·exact .inr ⟨_,e3⟩
 ·exact .inl ⟨_,a3⟩
theorem Is{g:Nat→Nat→Option (Nat×Nat)}{ver:Nat}{b:Box}{l:Lc}:Real (unB g ver b) l↔Real b l:=by cases b<;>exact Iff.rfl
theorem Ty{g:Nat→Nat→Option (Nat×Nat)}{ver v:Nat}{b:Box}(h:b.ver? =some v):(unB g ver b).ver? =some ver∧∀l,Real (unB g ver b) l↔Real b l:=by
 cases b<;>first | exact⟨rfl,fun _=>Iff.rfl⟩ | cases h
def OffB(hp:Hp)(m:Nat→Lc)(ids:List Nat)(w:World)(k:Nat):Prop:=k<w.heap.size∧∀(j id:Nat) (b:Box),ids[j]? =some id→hp id=some b→Real b (m id)→(m id).g≠k
section
variable {m : Nat → Lc} {H : HV} {B : Nat → Prop} {H0 : HV} {gl : Nat → AV} {t : Tr Box} {nx : Nat} {w : World}
theorem RelH.offB(h:RelH m H B H0 gl (lkb t) nx w)(ids:List Nat):∀k,B k→OffB (lkb t) m ids w k:=fun k hk=>⟨h.low k hk,fun _ id b _ hb hr e=>(h.sepR id b hb hr).1 (e▸hk)⟩
theorem back_ok(h:RelH m H B H0 gl (lkb t) nx w){ids:List Nat}{a7:List Box}{ps:List (Nat×Nat)}(hn:nodN ids=true)(cp:MN (lkb t) ids a7 nx=some ps){m':Nat→Lc}{H':HV}{w':World}
  (hH:RelH m' H' (OffB (lkb t) m ids w) H gl (lkb (hpOf 0 a7)) a7.length w') (hb:Qa (OffB (lkb t) m ids w) w w') (c7:∀(j id v:Nat) (cs:List AV),ids[j]? =some id→lkb t id=some (.cells v cs)→m' j=m id) (bz:∀(j id:Nat) (es:List (List UInt8×Int)),ids[j]? =some id→lkb t id=some (.mapI es)→(m' j).g=(m id).g):
  ∃M,RelH M H' B H0 gl (lkb (Db (gB ps a7) t ps a7)) (nx+(a7.length - ids.length)) w'∧Env.le (Q6 (lkb t) m) (Q6 (lkb (Db (gB ps a7) t ps a7)) M)∧HV.le H H'∧
   (∀v u,RV H' (Q6 (lkb (hpOf 0 a7)) m') v u→RV H' (Q6 (lkb (Db (gB ps a7) t ps a7)) M) (mapR (gB ps a7) 12 v) u)∧Qa B w w':=by
 classical
 obtain⟨bp,de,c5⟩:=NX cp;have ai:∀j,lkb (hpOf 0 a7) j=a7[j]? :=fun j=>by rw[Nf];simp
 have a8:∀(j id ver:Nat),ps[j]? =some (id,ver)→∃b,a7[j]? =some b∧T6 (lkb t) ids a7 nx ps j id ver b:=fun j id ver hj=>by
  have bg:j<a7.length:=by rw[← bp];exact(cqd.1 hj).1
  exact⟨_,cqc bg,c5 j id ver _ hj (cqc bg)⟩
 have au:∀id b,lkb t id=some b→id<nx:=fun id b hb=>by
  rcases Nat.lt_or_ge id nx with au | cm
  ·exact au
  ·have:=h.fresh id cm;rw[this] at hb;cases hb
 have am:∀(j id ver:Nat),ps[j]? =some (id,ver)→(ids[j]? =some id∧id<nx)∨(ids.length≤j∧id=nx+(j - ids.length)):=fun j id ver hj=>by
  obtain⟨b,_,hs⟩:=a8 j id ver hj;rcases hs.here with⟨v,cs,t,cs',e1,e2,_⟩ | ⟨v,sz,xs,v',bl,bm,e1,e2,_⟩ | ⟨es,bc,e1,e2,_⟩ | ⟨a1,a2,_⟩
  ·exact .inl ⟨e1,au _ _ e2⟩
  ·exact .inl ⟨e1,au _ _ e2⟩
  ·exact .inl ⟨e1,au _ _ e2⟩
  ·exact .inr ⟨a1,a2⟩
 have bo:∀(i j id v v':Nat),ps[i]? =some (id,v)→ps[j]? =some (id,v')→i=j:=fun i j id v v' hi hj=>by
  rcases am i id v hi with⟨a1,a2⟩ | ⟨a1,a2⟩<;>rcases am j id v' hj with⟨b1,b2⟩ | ⟨b1,b2⟩
  ·exact Eo hn a1 b1
  ·omega
  ·omega
  ·omega
 have hM:∃M:Nat→Lc,(∀(j id ver:Nat),ps[j]? =some (id,ver)→M id=m' j)∧∀(id:Nat),(∀(j v:Nat),ps[j]? ≠some (id,v))→M id=m id:=by
  refine⟨fun id=>if hx:∃(j v:Nat),ps[j]? =some (id,v) then m' hx.choose else m id,fun j id ver hj=> ?_,fun id a4=> ?_⟩
  ·have hx:∃(j v:Nat),ps[j]? =some (id,v):=⟨j,ver,hj⟩;obtain⟨v,hv⟩:=hx.choose_spec;show(if hx:∃(j v:Nat),ps[j]? =some (id,v) then m' hx.choose else m id)=m' j
   rw[dif_pos hx,bo _ j id v ver hv hj]
  ·show(if hx:∃(j v:Nat),ps[j]? =some (id,v) then m' hx.choose else m id)=m id
   rw[dif_neg];rintro⟨j,v,hj⟩;exact a4 j v hj
 obtain⟨M,ah,ak⟩:=hM;have cn:∀(j id:Nat),ids[j]? =some id→∃ver,ps[j]? =some (id,ver):=fun j id hj=>by
  have bg:=(cqd.1 hj).1;have co:j<ps.length:=by omega
  have hp:=cqc co;rcases am j ps[j].1 ps[j].2 hp with⟨a1,_⟩ | ⟨a1,_⟩
  ·rw[hj] at a1;cases a1;exact⟨_,hp⟩
  ·omega
 generalize hT:Db (gB ps a7) t ps a7=T;have ag:∀(j id ver:Nat) (b:Box),ps[j]? =some (id,ver)→a7[j]? =some b→lkb T id=some (unB (gB ps a7) ver b):=fun j id ver b hj hb=>by subst hT;exact PX bo j id ver b hj hb
 have aa:∀(id:Nat),(∀(j v:Nat),ps[j]? ≠some (id,v))→lkb T id=lkb t id:=fun id a4=>by subst hT;exact Fc a4
 have be:=h.offB ids;have aj:∀id b,lkb t id=some b→Real b (m id)→(∀(j v:Nat),ps[j]? ≠some (id,v))→OffB (lkb t) m ids w (m id).g:=fun id b hb hr a4=>⟨(h.sepR id b hb hr).2.1,fun j c8 b2 hj cj cq e=>by
  have:=h.injR c8 id b2 b cj hb cq hr e;subst this;obtain⟨ver,hv⟩:=cn j c8 hj;exact a4 j ver hv⟩
 have bn:HV.le H H':=fun b o v hv=>by
  rw[hH.old b o ⟨Jh h.sat hv,fun j id bx _ hb hr e=>by
   have:=(h.sepR id bx hb hr).2.2 o;rw[e,hv] at this;cases this⟩]
  exact hv
 have hE:Env.le (Q6 (lkb t) m) (Q6 (lkb T) M):=by
  refine⟨fun id ver ⟨b,h1,h2⟩=> ?_,fun id ver l ⟨b,h1,h2⟩ hl=> ?_,fun id l hl=> ?_⟩
  ·by_cases hx:∃(j v:Nat),ps[j]? =some (id,v)
   ·obtain⟨j,v,hj⟩:=hx;obtain⟨b',ab,hs⟩:=a8 j id v hj;refine⟨_,ag j id v b' hj ab,fun v1 c6=> ?_⟩
    obtain⟨v0,af⟩ | ⟨es,rfl⟩:=hs.ver
    rotate_left
    ·cases c6
    rw[(Ty af).1] at c6;cases c6;rcases hs.here with⟨v2,cs,t2,cs',e1,e2,_,e4,_⟩ | ⟨v2,sz,xs,v',bl,bm,e1,e2,_,e4⟩ | ⟨es,bc,e1,e2,rfl,e4⟩ | ⟨a1,a2,_⟩
    ·rw[h1] at e2;cases e2;rw[e4];exact h2 _ rfl
    ·rw[h1] at e2;cases e2;rw[e4];exact Nat.le_trans (h2 _ rfl) (Nat.le_add_right _ _)
    ·cases af
    ·have:=au _ _ h1;omega
   ·have a4:∀(j v:Nat),ps[j]? ≠some (id,v):=fun j v hj=>hx ⟨j,v,hj⟩
    exact⟨b,by rw[aa id a4];exact h1,h2⟩
  ·by_cases hx:∃(j v:Nat),ps[j]? =some (id,v)
   ·obtain⟨j,v,hj⟩:=hx;obtain⟨b',ab,hs⟩:=a8 j id v hj;have a9:=ag j id v b' hj ab;obtain⟨v0,af⟩ | ⟨es,rfl⟩:=hs.ver
    rotate_left
    ·simp only[Q6,a9] at hl;cases hl
    simp only[Q6,a9,(Ty af).1] at hl;split at hl
    ·rename_i hv;subst hv;rcases hs.here with⟨v2,cs,t2,cs',e1,e2,_,e4,_⟩ | ⟨v2,sz,xs,v',bl,bm,e1,e2,_,e4⟩ | ⟨es,bc,e1,e2,rfl,e4⟩ | ⟨a1,a2,_⟩
     ·cases hl;rw[ah j id _ hj,c7 j id v2 cs e1 e2,e4];exact Je e2 rfl
     ·rw[h1] at e2;cases e2;have:=h2 _ rfl;omega
     ·cases af
     ·have:=au _ _ h1;omega
    ·cases hl
   ·have a4:∀(j v:Nat),ps[j]? ≠some (id,v):=fun j v hj=>hx ⟨j,v,hj⟩
    simp only[Q6,aa id a4,ak id a4] at hl ⊢;exact hl
  ·by_cases hx:∃(j v:Nat),ps[j]? =some (id,v)
   ·obtain⟨j,v,hj⟩:=hx;obtain⟨b',ab,hs⟩:=a8 j id v hj;rcases hs.here with⟨v2,cs,t2,cs',e1,e2,_,e4,_⟩ | ⟨v2,sz,xs,v',bl,bm,e1,e2,_,e4⟩ | ⟨es,bc,e1,e2,rfl,e4⟩ | ⟨a1,a2,_⟩
    ·simp only[Q6,e2] at hl;cases hl
    ·simp only[Q6,e2] at hl;cases hl
    ·simp only[Q6,e2] at hl;have a9:=ag j id v _ hj ab;simp only[Q6,a9,unB,ah j id v hj,bz j id es e1 e2,hl]
    ·have:=h.fresh id (by omega)
     simp only[Q6,this] at hl;cases hl
   ·have a4:∀(j v:Nat),ps[j]? ≠some (id,v):=fun j v hj=>hx ⟨j,v,hj⟩
    simp only[Q6,aa id a4,ak id a4] at hl ⊢;exact hl
 have b7:∀(v:AV) (u:Value),RV H' (Q6 (lkb (hpOf 0 a7)) m') v u→RV H' (Q6 (lkb T) M) (mapR (gB ps a7) 12 v) u:=fun v u hv=>by
  refine Pg (fun j tv id ver hg=> ?_) 12 v u hv
  unfold gB at hg;split at hg
  ·rename_i p hp;split at hg
   ·rename_i b hb;split at hg
    ·rename_i v0 af;split at hg
     ·rename_i ck;cases hg;obtain rfl:=cqa ck;have a9:=ag j id ver b hp hb;refine⟨OX a9 (Ty af).1,fun l hl=> ?_,fun l hl=> ?_⟩
      ·rw[Je a9 (Ty af).1,ah j id ver hp] at hl;rw[Je (by rw[ai];exact hb) af];exact hl
      ·simp only[Q6,ai,hb] at hl;cases b<;>first | (cases hl;done) | (cases af;done)
     ·cases hg
    ·split at hg
     ·rename_i es;cases hg;have a9:=ag j id ver _ hp hb;refine⟨⟨_,a9,fun v hv=>by cases hv⟩,fun l hl=> ?_,fun l hl=> ?_⟩
      ·simp only[Q6,a9,unB] at hl;cases hl
      ·simp only[Q6,ai,hb] at hl;simp only[Q6,a9,unB,ah j id ver hp,hl]
     ·cases hg
   ·cases hg
  ·cases hg
 refine⟨M,{sat:=hH.sat,old:=fun b o hB=> ?_,low:=fun b hB=>Nat.lt_of_lt_of_le (h.low b hB) hb.size,fresh:=fun id a6=> ?_,box:=fun id b a6=> ?_,sepR:=fun id b a6 hr=> ?_,injR:=fun i j b1 b2 h1 h2 r1 r2 he=> ?_,gv:=h.gv.mono fun k hk=>hb.block k (be k hk),gl:=hH.gl,ty:=fun id v cs a6=> ?_},hE,bn,b7,hb.mono be⟩
 ·rw[hH.old b o (be b hB)];exact h.old b o hB
 ·rw[aa id fun j v hj=> ?_]
  ·exact h.fresh id (by omega)
  ·have bg:j<a7.length:=by rw[← bp];exact(cqd.1 hj).1
   rcases am j id v hj with⟨_,a2⟩ | ⟨a1,a2⟩<;>omega
 ·by_cases hx:∃(j v:Nat),ps[j]? =some (id,v)
  ·obtain⟨j,v,hj⟩:=hx;obtain⟨b',ab,hs⟩:=a8 j id v hj;rw[ag j id v b' hj ab] at a6;cases a6;rw[ah j id v hj];have bf:=hH.box j b' (by rw[ai];exact ab)
   cases b' with
   |cells v2 cs=>
    obtain⟨C,e,c1,c2,c3,c4⟩:=bf;refine⟨C,e,c1,c2,by simpa using c3,fun i c hc=> ?_⟩
    rw[cqs,Option.map_eq_some_iff] at hc;obtain⟨c0,cl,rfl⟩:=hc;obtain⟨u,b1,b2,b3⟩:=c4 i c0 cl;exact⟨u,b1,b2,b7 c0 u b3⟩
   |own v2 sz xs=>exact bf
   |hol v2 sz xs i c r=>
    obtain⟨d1,d2,d3,d4,d5,C,e,c1,c2,c3,c4,u,b1,b2,b3⟩:=bf;exact⟨d1,d2,d3,d4,d5,C,e,c1,c2,c3,c4,u,b1,b2,b7 r u b3⟩
   |mapI es=>
    obtain⟨A,c,a1,a2,a3⟩:=bf;refine⟨A,c,a1,a2,fun q k x e hq hA=> ?_⟩
    obtain⟨a,d⟩:=a3 q k x e hq hA;obtain⟨p,_,hp⟩:=List.mem_map.1 (cqr hq);cases hp;exact⟨a,by cases d with | imm _ _ d=>exact .imm _ _ d⟩
   |_=>rcases hs.ver with⟨_,af⟩ | ⟨_,af⟩<;>cases af
  ·have a4:∀(j v:Nat),ps[j]? ≠some (id,v):=fun j v hj=>hx ⟨j,v,hj⟩
   rw[aa id a4] at a6;rw[ak id a4];exact(h.box id b a6).mono' bn hE fun hr=>hb.block _ (aj id b a6 hr a4)
 ·by_cases hx:∃(j v:Nat),ps[j]? =some (id,v)
  ·obtain⟨j,v,hj⟩:=hx;obtain⟨b',ab,hs⟩:=a8 j id v hj;rw[ag j id v b' hj ab] at a6;cases a6;rw[ah j id v hj] at hr ⊢;obtain⟨x,y,z⟩:=hH.sepR j b' (by rw[ai];exact ab) (Is.1 hr)
   exact⟨fun hB=>x (be _ hB),y,z⟩
  ·have a4:∀(j v:Nat),ps[j]? ≠some (id,v):=fun j v hj=>hx ⟨j,v,hj⟩
   rw[aa id a4] at a6;rw[ak id a4] at hr ⊢;obtain⟨x,y,z⟩:=h.sepR id b a6 hr;exact⟨x,Nat.lt_of_lt_of_le y hb.size,fun o=>by rw[hH.old _ o (aj id b a6 hr a4)];exact z o⟩
 ·by_cases hx:∃(k v:Nat),ps[k]? =some (i,v)<;>by_cases hy:∃(k v:Nat),ps[k]? =some (j,v)
  ·obtain⟨k1,v1,ap⟩:=hx;obtain⟨k2,v2,an⟩:=hy;obtain⟨c1,b5,cr⟩:=a8 k1 i v1 ap;obtain⟨c2,b6,ct⟩:=a8 k2 j v2 an;rw[ag k1 i v1 c1 ap b5] at h1;rw[ag k2 j v2 c2 an b6] at h2;cases h1;cases h2;rw[ah k1 i v1 ap] at r1 he;rw[ah k2 j v2 an] at r2 he;have:=hH.injR k1 k2 c1 c2 (by rw[ai];exact b5) (by rw[ai];exact b6) (Is.1 r1) (Is.1 r2) he
   subst this;rw[ap] at an;cases an;rfl
  ·obtain⟨k1,v1,ap⟩:=hx;obtain⟨c1,b5,cr⟩:=a8 k1 i v1 ap;have a4:∀(k v:Nat),ps[k]? ≠some (j,v):=fun k v hk=>hy ⟨k,v,hk⟩
   rw[ag k1 i v1 c1 ap b5] at h1;rw[aa j a4] at h2;cases h1;rw[ah k1 i v1 ap] at r1 he;rw[ak j a4] at r2 he;exact absurd (by rw[he];exact aj j b2 h2 r2 a4) (hH.sepR k1 c1 (by rw[ai];exact b5) (Is.1 r1)).1
  ·obtain⟨k2,v2,an⟩:=hy;obtain⟨c2,b6,ct⟩:=a8 k2 j v2 an;have a4:∀(k v:Nat),ps[k]? ≠some (i,v):=fun k v hk=>hx ⟨k,v,hk⟩
   rw[ag k2 j v2 c2 an b6] at h2;rw[aa i a4] at h1;cases h2;rw[ah k2 j v2 an] at r2 he;rw[ak i a4] at r1 he;exact absurd (by rw[← he];exact aj i b1 h1 r1 a4) (hH.sepR k2 c2 (by rw[ai];exact b6) (Is.1 r2)).1
  ·have bq:∀(k v:Nat),ps[k]? ≠some (i,v):=fun k v hk=>hx ⟨k,v,hk⟩
   have br:∀(k v:Nat),ps[k]? ≠some (j,v):=fun k v hk=>hy ⟨k,v,hk⟩
   rw[aa i bq] at h1;rw[aa j br] at h2;rw[ak i bq] at r1 he;rw[ak j br] at r2 he;exact h.injR i j b1 b2 h1 h2 r1 r2 he
 ·by_cases hx:∃(j v:Nat),ps[j]? =some (id,v)
  ·obtain⟨j,v1,hj⟩:=hx;obtain⟨b',ab,hs⟩:=a8 j id v1 hj;rw[ag j id v1 b' hj ab] at a6;rw[ah j id v1 hj];rcases hs.here with⟨v2,d6,t2,cs',e1,e2,rfl,e4,e5⟩ | ⟨v2,sz,xs,v',bl,bm,e1,e2,rfl,e4⟩ | ⟨es,bc,e1,e2,rfl,e4⟩ | ⟨a1,a2,a3⟩
   ·simp only[unB,cqf,Box.cells.injEq] at a6;obtain⟨rfl,_⟩:=a6;have:=hH.ty j t2 cs' (by rw[ai];exact ab)
    unfold TyOk at this ⊢;rw[e4,e5];rw[← e5,Nat.mod_mod,e5] at this;exact this
   ·simp only[unB,cqf,reduceCtorEq] at a6
   ·simp only[unB,cqf,reduceCtorEq] at a6
   ·cases b' with
    |cells v3 cs3=>
     cases a3;simp only[unB,cqf,Box.cells.injEq] at a6;obtain⟨rfl,_⟩:=a6;exact hH.ty j _ cs3 (by rw[ai];exact ab)
    |own=>simp only[unB,cqf,reduceCtorEq] at a6
    |hol=>simp only[unB,cqf,reduceCtorEq] at a6
    |_=>cases a3
  ·have a4:∀(j v:Nat),ps[j]? ≠some (id,v):=fun j v hj=>hx ⟨j,v,hj⟩
   rw[aa id a4] at a6;rw[ak id a4];exact(h.ty id v cs a6).mono (hb.block _ (aj id _ a6 trivial a4))
end
def M2(o:Oper)(gv:Option AV):Option Bool:=
 match o.guard with
 |none=>some true
 |some (_,want)=>match gv with
  |some x=>LH x want
  |none=>none
theorem Hn{P:Program}{ch:Yr}{md:Bool}{F:Zj}{all:List Oper}{bid:Nat}{o:Oper}{gv:Option AV}{ev:Operand→AV}{hp:Hp}:UG P ch md F all bid o gv ev hp=match M2 o gv with | some true=>xoF P ch md F all bid o ev hp | some false=>some (.tup [],none) | none=>none:=by
 unfold UG M2;cases o.guard with
 |none=>rfl
 |some x=>
  cases gv with
  |none=>rfl
  |some y=>first | (simp only;done) | (simp only;cases LH y x.2 with | none=>rfl | some b=>cases b<;>rfl)
def Li(f:AV→(AV→Prop)→Prop):List AV→(List AV→Prop)→Prop
 | [],K=>K []
 |x::xs,K=>f x (fun y=>Li f xs (fun ys=>K (y::ys)))
def LM(hp:Hp):Nat→AV→(AV→Prop)→Prop
 |0,_,_=>False
 |k+1,x,K=>match x with
  | .bs id ver sz off len=>match hp id with
   |some (.cells v cs)=>match Nat.beq v ver&& (Nat.ble (off+len*sz) cs.length&&Nat.blt 0 sz) with
    |true=>Li (LM hp k) ((cs.drop off).take (len*sz)) (fun ds=>K (.sl sz (U4 sz len ds)))
    |false=>False
   |_=>False
  | .ow id ver sz len=>match hp id with
   |some (.own v z xs)=>match Nat.beq v ver&&Nat.beq z sz with
    |true=>len=xs.length∧K (.sl sz xs)
    |false=>False
   |_=>False
  | .agg cs=>Li (LM hp k) cs (fun ds=>K (.agg ds))
  | .tup cs=>Li (LM hp k) cs (fun ds=>K (.tup ds))
  | .fn f cs=>Li (LM hp k) cs (fun ds=>K (.fn f ds))
  | .ptr id ver off=>match hp id with
   |some (.cells v cs)=>match Nat.beq v ver&&Nat.blt 0 cs.length with
    |true=>Li (LM hp k) cs (fun ds=>K (.ip cs.length [.agg ds] 0 off))
    |false=>False
   |_=>False
  | .oe .. =>False
  | .yld _=>False
  | .mp _=>False
  |x=>K x
theorem Cf{R:AV→Value→Prop}{R':AV→Value→Prop}{f:AV→(AV→Prop)→Prop}(hf:∀x u K,R x u→f x K→∃t,K t∧R' t u):∀(cs:List AV) (us:List Value) (K:List AV→Prop),cs.length≤us.length→(∀(j:Nat) (c:AV) (u:Value),cs[j]? =some c→us[j]? =some u→R c u)→Li f cs K→
  ∃ds,K ds∧ds.length=cs.length∧∀(j:Nat) (d:AV) (u:Value),ds[j]? =some d→us[j]? =some u→R' d u
 | [],us,K,_,_,h=>⟨[],h,rfl,fun j d u hj=>by simp at hj⟩
 |c::cs,[],K,hl,_,_=>by simp at hl
 |c::cs,u::us,K,hl,hr,h=>by
  obtain⟨t,ht,hR⟩:=hf c u _ (hr 0 c u rfl rfl) h;obtain⟨ds,hK,a5,a6⟩:=Cf hf cs us _ (by simpa using hl) (fun j c' u' h1 h2=>hr (j+1) c' u' (by simpa using h1) (by simpa using h2)) ht
  refine⟨t::ds,hK,by simp[a5],fun j d u' h1 h2=> ?_⟩
  cases j with
  |zero=>simp at h1 h2;subst h1;subst h2;exact hR
  |succ j=>exact a6 j d u' (by simpa using h1) (by simpa using h2)
theorem bs_tree{K:HV}{E:Env}{H:HV}{w:World}{id ver sz off len:Nat}{cs ds:List AV}{l:Lc}{v:Value}(hx:RV H E (.bs id ver sz off len) v)(hE:E.loc id ver=some l)(ad:V9 H E cs l w)(ay:off+len*sz≤cs.length)(ai:0<sz)(ao:ds.length=len*sz)
  (af:∀(j:Nat) (d:AV) (u:Value),ds[j]? =some d→w.cell? ⟨l.g,l.base+(off+j),none⟩=some u→RelI K d u) (hK:∀o,K l.g o=w.cell? ⟨l.g,o,none⟩):RelI K (.sl sz (U4 sz len ds)) v:=by
 obtain⟨a,cap,rfl,_,ap,ak,ag⟩:=hx.bs_inv;obtain⟨rfl,ar⟩:=ag _ hE;obtain⟨C,e,hC,b0,au,an⟩:=ad;have aa:(U4 sz len ds).length=len:=by simp[U4]
 have ae:∀(i:Nat) (x:AV),(U4 sz len ds)[i]? =some x→i<len∧x= .agg ((ds.drop (i*sz)).take sz):=fun i x hx=>by
  have hi:i<len:=by rw[← aa];exact(cqd.1 hx).1
  simp[U4,hi] at hx;exact⟨hi,hx.symm⟩
 have ah:∀i,i<len→i*sz+sz≤len*sz:=fun i hi=>by
  have:(i+1)*sz≤len*sz:=cqp _ hi;rw[Nat.add_mul] at this;omega
 have a5:∀(i:Nat) (x:AV) (j:Nat) (c:AV),(U4 sz len ds)[i]? =some x→x.cells[j]? =some c→i<len∧j<sz∧ds[i*sz+j]? =some c:=fun i x j c hx hj=>by
  obtain⟨hi,rfl⟩:=ae i x hx;simp only[AV.cells] at hj;have a8:j<sz:=by have:=(cqd.1 hj).1;simp at this;omega
  rw[List.getElem?_take,if_pos a8,List.getElem?_drop] at hj;exact⟨hi,a8,hj⟩
 have a6:∀(n:Nat) (c:AV),ds[n]? =some c→∃u,C[l.base+off+n]? =some u∧u.oneCell'=true∧RelI K c u:=fun n c hn=>by
  have az:n<len*sz:=by rw[← ao];exact(cqd.1 hn).1
  have am:cs[off+n]? =some (cs[off+n]'(by omega)):=cqc (by omega)
  obtain⟨u,a1,a2,a3⟩:=an _ _ am;exact⟨u,by rw[Nat.add_assoc];exact a1,a2,af n c u hn (by rw[XP _ _ _ _ _ _ hC];exact a1)⟩
 have:=RelI.sl (H:=K) sz (U4 sz len ds) l.g (l.base+off) cap (fun i j=>(C[l.base+off+(i*sz+j)]?).getD Go.undef) ai (by rw[aa];exact ap) ak
  (fun i x hx=>by
   obtain⟨hi,rfl⟩:=ae i x hx;have:=ah i hi;simp[AV.cells];omega)
  (fun i x j c hx hj=>by
   obtain⟨hi,a8,hn⟩:=a5 i x j c hx hj;obtain⟨u,a1,a2,a3⟩:=a6 _ c hn;rw[a1];refine⟨?_,a2⟩;rw[hK,XP _ _ _ _ _ _ hC,Nat.add_assoc,a1];rfl)
  (fun i x j c hx hj=>by
   obtain⟨hi,a8,hn⟩:=a5 i x j c hx hj;obtain⟨u,a1,a2,a3⟩:=a6 _ c hn;rw[a1];exact a3)
 rw[aa] at this;exact this
theorem Ag{H:HV}{hp:Hp}{m:Nat→Lc}{w:World}(ad:∀id b,hp id=some b→Yq H (Q6 hp m) b (m id) w)(hd:∀id bx,hp id=some bx→Real bx (m id)→∀o,H (m id).g o=none):∀(k:Nat) (x:AV) (v:Value) (K:AV→Prop),RV H (Q6 hp m) x v→LM hp k x K→∃t,K t∧RelI (snap H hp m w) t v
 |0,x,v,K,_,h=>h.elim
 |k+1,x,v,K,hx,h=>by
  have ih:=Ag ad hd k;have ar:HV.le H (snap H hp m w):=HO hd;have ao:∀id b ver,hp id=some b→b.ver? =some ver→Real b (m id)→∀o,snap H hp m w (m id).g o=w.cell? ⟨(m id).g,o,none⟩:=fun id b ver a4 hv hr o=>by
   unfold snap;rw[if_pos ⟨id,b,ver,a4,hv,hr,rfl⟩]
  unfold LM at h;split at h
  ·rename_i id ver sz off len;split at h
   ·rename_i v' cs a4;split at h
    ·rename_i hc;simp only[cqb] at hc;obtain rfl:=cqa hc.1;have au:=cqe hc.2.1;have ah:0<sz:=cqe hc.2.2;have hb:=ad id _ a4;obtain⟨C,e,hC,ax,am,ag⟩:=hb;obtain⟨ds,hK,a7,aa⟩:=Cf (R:=RV H (Q6 hp m)) (R':=RelI (snap H hp m w)) ih ((cs.drop off).take (len*sz)) ((List.range (len*sz)).map fun j=>(C[(m id).base+(off+j)]?).getD Go.undef) _ (by simp;omega) (fun j c u hc hu=>by
      have a8:j<len*sz:=by have:=(cqd.1 hu).1;simpa using this
      rw[List.getElem?_take,if_pos a8,List.getElem?_drop] at hc;obtain⟨u',a1,_,a3⟩:=ag _ c hc;simp[a8,a1] at hu;subst hu;exact a3) h
     have ak:ds.length=len*sz:=by rw[a7];simp;omega
     refine⟨_,hK,bs_tree hx (Je a4 rfl) ⟨C,e,hC,ax,am,ag⟩ au ah ak (fun j d u hj hu=> ?_) (ao id _ _ a4 rfl trivial)⟩
     have a8:j<len*sz:=by rw[← ak];exact(cqd.1 hj).1
     rw[XP _ _ _ _ _ _ hC] at hu;exact aa j d u hj (by simp[a8,hu])
    ·cases h
   ·cases h
  ·rename_i id ver sz len;split at h
   ·rename_i v' z xs a4;split at h
    ·rename_i hc;rw[cqb] at hc;obtain rfl:=cqa hc.1;obtain rfl:=cqa hc.2;obtain⟨hl,hK⟩:=h;exact⟨_,hK,Ew (w:=w) hx (Je a4 rfl) (ad id _ a4) hl ar fun h0 o=>ao id _ _ a4 rfl h0 o⟩
    ·cases h
   ·cases h
  ·rename_i cs;obtain⟨vs,rfl,h1,h2,h3⟩:=hx.agg_inv;obtain⟨ds,hK,a7,aa⟩:=Cf (R:=RV H (Q6 hp m)) (R':=RelI (snap H hp m w)) ih cs vs.toList _ (by simp[h1]) (fun j c u hc hu=>h3 j c u hc (by simpa using hu)) h
   exact⟨_,hK,.agg ds vs (by rw[a7];exact h1) h2 fun j c u hj hu=>aa j c u hj (by simpa using hu)⟩
  ·rename_i cs;obtain⟨vs,rfl,h1,h3⟩:=hx.tup_inv;obtain⟨ds,hK,a7,aa⟩:=Cf (R:=RV H (Q6 hp m)) (R':=RelI (snap H hp m w)) ih cs vs.toList _ (by simp[h1]) (fun j c u hc hu=>h3 j c u hc (by simpa using hu)) h
   exact⟨_,hK,.tup ds vs (by rw[a7];exact h1) fun j c u hj hu=>aa j c u hj (by simpa using hu)⟩
  ·rename_i f cs;obtain⟨vs,rfl,h1,h3⟩:=hx.fn_inv;obtain⟨ds,hK,a7,aa⟩:=Cf (R:=RV H (Q6 hp m)) (R':=RelI (snap H hp m w)) ih cs vs.toList _ (by simp[h1]) (fun j c u hc hu=>h3 j c u hc (by simpa using hu)) h
   exact⟨_,hK,.fn f ds vs (by rw[a7];exact h1) fun j c u hj hu=>aa j c u hj (by simpa using hu)⟩
  ·rename_i id ver off;split at h
   ·rename_i v' cs a4;split at h
    ·rename_i hc;simp only[cqb] at hc;obtain rfl:=cqa hc.1;have ah:0<cs.length:=cqe hc.2;obtain⟨C,e,hC,ax,am,ag⟩:=ad id _ a4;obtain⟨ds,hK,a7,aa⟩:=Cf (R:=RV H (Q6 hp m)) (R':=RelI (snap H hp m w)) ih cs ((List.range cs.length).map fun j=>(C[(m id).base+j]?).getD Go.undef) _ (by simp) (fun j c u hc hu=>by
      have a8:j<cs.length:=by have:=(cqd.1 hu).1;simpa using this
      obtain⟨u',a1,_,a3⟩:=ag _ c hc;simp[a8,a1] at hu;subst hu;exact a3) h
     obtain⟨a,rfl,_,aw⟩:=hx.ptr_inv;obtain rfl:=aw _ (Je a4 rfl);have an:∀(i:Nat) (x:AV),[AV.agg ds][i]? =some x→i=0∧x= .agg ds:=fun i x hx=>by
      cases i with
      |zero=>simp at hx;exact⟨rfl,hx.symm⟩
      |succ i=>simp at hx
     have af:∀(i:Nat) (x:AV) (j:Nat) (c:AV),[AV.agg ds][i]? =some x→x.cells[j]? =some c→i=0∧j<cs.length∧ds[j]? =some c:=fun i x j c hx hj=>by
      obtain⟨rfl,rfl⟩:=an i x hx;exact⟨rfl,by rw[← a7];exact(cqd.1 hj).1,hj⟩
     have ai:∀(j:Nat) (c:AV),j<cs.length→ds[j]? =some c→∃u,C[(m id).base+j]? =some u∧u.oneCell'=true∧RelI (snap H hp m w) c u:=fun j c hj hc=>by
      obtain⟨u,a1,a2,_⟩:=ag j _ (cqc hj);exact⟨u,a1,a2,aa j c u hc (by simp[hj,a1])⟩
     have:=RelI.ip (H:=snap H hp m w) cs.length [.agg ds] (m id).g (m id).base 0 off (fun _ j=>(C[(m id).base+j]?).getD Go.undef) ah (by simp)
      (fun i x hx=>by obtain⟨_,rfl⟩:=an i x hx;exact a7)
      (fun i x j c hx hj=>by
       obtain⟨rfl,a8,hn⟩:=af i x j c hx hj;obtain⟨u,a1,a2,a3⟩:=ai j c a8 hn;rw[a1];refine⟨?_,a2⟩;rw[ao id _ _ a4 rfl trivial,XP _ _ _ _ _ _ hC,Nat.zero_mul,Nat.add_zero,a1];rfl)
      (fun i x j c hx hj=>by
       obtain⟨rfl,a8,hn⟩:=af i x j c hx hj;obtain⟨u,a1,a2,a3⟩:=ai j c a8 hn;rw[a1];exact a3)
     rw[Nat.zero_mul,Nat.add_zero] at this;exact⟨_,hK,this⟩
    ·cases h
   ·cases h
  ·cases h
  ·cases h
  ·cases h
  ·rename_i x n1 n2 n3 n4 n5 n6 n7 n8 n9;refine⟨_,h,?_⟩;cases hx with
   |imm _ _ hx=>exact hx.mono ar
   |ptr=>exact absurd rfl (n6 _ _ _)
   |bs=>exact absurd rfl (n1 _ _ _ _ _)
   |ow=>exact absurd rfl (n2 _ _ _ _)
   |oe=>exact absurd rfl (n7 _ _ _ _ _)
   |yld=>exact absurd rfl (n8 _)
   |mp=>exact absurd rfl (n9 _)
   |fn=>exact absurd rfl (n5 _ _)
   |agg=>exact absurd rfl (n3 _)
   |tup=>exact absurd rfl (n4 _)
theorem Q0q{H:HV}{m:Nat→Lc}:∀ {x:AV} {v:Value},RV H (Q6 (lkb .nil) m) x v→RelI H x v:=by
  intro x v h
  induction h with
  |imm _ _ h=>exact h
  |ptr id ver off a hal=>obtain⟨b,hb,_⟩:=hal;rw[ZD] at hb;cases hb
  |bs id ver sz off len a cap hal=>obtain⟨b,hb,_⟩:=hal;rw[ZD] at hb;cases hb
  |ow id ver sz len a cap hal=>obtain⟨b,hb,_⟩:=hal;rw[ZD] at hb;cases hb
  |oe id ver sz i off a hal=>obtain⟨b,hb,_⟩:=hal;rw[ZD] at hb;cases hb
  |yld id l hl=>simp[Q6,ZD] at hl
  |mp id l hl=>simp[Q6,ZD] at hl
  |fn f cs vs h _ ih=>exact .fn f cs vs h ih
  |agg cs vs h h1 _ ih=>exact .agg cs vs h h1 ih
  |tup cs vs h _ ih=>exact .tup cs vs h ih
structure LeT (x t:AV):Prop where
  ok:∀(H:HV) (v:Value),RelI H x v→RelI H t v
theorem LeT.refl(x:AV):LeT x x:=⟨fun _ _ h=>h⟩
theorem LeT.nil(sz:Nat):LeT .nil (.sl sz []):=⟨fun H v h=>by cases h;exact .sl0 _ _ _ (Nat.zero_le _)⟩
theorem LeT.undef(x:AV):LeT x .undef:=⟨fun _ _ _=>.undef _⟩
inductive LeL:List AV→List AV→Prop
  |nil:LeL [] []
  |cons {x t:AV} {xs ts:List AV}:LeT x t→LeL xs ts→LeL (x::xs) (t::ts)
theorem LeL.get:∀ {xs ts:List AV},LeL xs ts→xs.length=ts.length∧∀(j:Nat) (t:AV),ts[j]? =some t→∃x,xs[j]? =some x∧LeT x t
  |_,_,.nil=>⟨rfl,fun j t h=>by simp at h⟩
  |_,_,.cons h r=>⟨by simp[r.get.1],fun j t' hj=>by
    cases j with
    |zero=>simp at hj;subst hj;exact⟨_,rfl,h⟩
    |succ j=>simpa using r.get.2 j t' (by simpa using hj)⟩
theorem LeL.refl:∀(xs:List AV),LeL xs xs
  | []=>.nil
  |x::xs=>.cons (.refl x) (LeL.refl xs)
theorem LeT.agg{xs ts:List AV}(h:LeL xs ts):LeT (.agg xs) (.agg ts):=⟨fun H v hv=>by
  obtain⟨h1,h2⟩:=h.get;cases hv with
  |agg _ vs a b c=>
    exact .agg _ vs (by rw[← h1];exact a) b fun j t u hj hu=>by
      obtain⟨x,hx,a3⟩:=h2 j t hj;exact a3.ok H u (c j x u hx hu)⟩
theorem LeT.tup{xs ts:List AV}(h:LeL xs ts):LeT (.tup xs) (.tup ts):=⟨fun H v hv=>by
  obtain⟨h1,h2⟩:=h.get;cases hv with
  |tup _ vs a c=>
    exact .tup _ vs (by rw[← h1];exact a) fun j t u hj hu=>by
      obtain⟨x,hx,a3⟩:=h2 j t hj;exact a3.ok H u (c j x u hx hu)⟩
theorem Pu.le{P:Program}{gl:Nat→AV}{f:Nat}{args a3:List AV}{r r':AV}(h:Pu P gl f a3 r)(ha:LeL args a3)(hr:LeT r r'):Pu P gl f args r':=⟨fun m H B H0 w vs hh hl hv=>by
  obtain⟨h1,h2⟩:=ha.get;refine(h.ok m H B H0 w vs hh (by rw[← h1];exact hl) fun j x v hx a5=> ?_).mono fun e w' ⟨v,m',H',a,b,c,d⟩=>⟨v,m',H',a,b,c,.imm _ _ (hr.ok _ _ (Q0q d))⟩
  obtain⟨y,hy,a4⟩:=h2 j x hx;exact .imm _ _ (a4.ok _ _ (Q0q (hv j y v hy a5)))⟩
def KH:Nat→List Box→List AV
  |_,[]=>[]
  |j,b::r=>match b with
    | .cells t _=>.ptr j t 0::KH (j+1) r
    | .mapI _=>.mp j::KH (j+1) r
    |_=>KH (j+1) r
def CD(m:Nat→Lc):Nat→List Box→List (AV×Value)
  |_,[]=>[]
  |j,b::r=>match b with
    | .cells t _=>(.ptr j t 0,.pointer (some ⟨(m j).g,(m j).base,none⟩))::CD m (j+1) r
    | .mapI _=>(.mp j,.map (some (m j).g))::CD m (j+1) r
    |_=>CD m (j+1) r
theorem PQ{m:Nat→Lc}:∀(j:Nat) (bs:List Box),(CD m j bs).map (·.1)=KH j bs
  |_,[]=>rfl
  |j,b::r=>by
    cases b<;>simp only[CD,KH,List.map_cons,PQ (j+1) r]
theorem PR{m:Nat→Lc}:∀(k:Nat) (bs:List Box) (p:AV×Value),p∈CD m k bs→(∃j t cs,bs[j]? =some (.cells t cs)∧p=(.ptr (k+j) t 0,.pointer (some ⟨(m (k+j)).g,(m (k+j)).base,none⟩)))∨∃j es,bs[j]? =some (.mapI es)∧p=(.mp (k+j),.map (some (m (k+j)).g))
  |_,[],p,h=>by simp[CD] at h
  |k,b::r,p,h=>by
    have tl:p∈CD m (k+1) r→(∃j t cs,(b::r)[j]? =some (.cells t cs)∧p=(.ptr (k+j) t 0,.pointer (some ⟨(m (k+j)).g,(m (k+j)).base,none⟩)))∨∃j es,(b::r)[j]? =some (.mapI es)∧p=(.mp (k+j),.map (some (m (k+j)).g)):=fun h=>by
      rcases PR (k+1) r p h with⟨j,t,cs,h1,h2⟩ | ⟨j,es,h1,h2⟩
      · refine .inl ⟨j+1,t,cs,by simpa using h1,?_⟩
        rw[show k+(j+1)=k+1+j by omega];exact h2
      · refine .inr ⟨j+1,es,by simpa using h1,?_⟩
        rw[show k+(j+1)=k+1+j by omega];exact h2
    cases b with
    |cells t cs=>
      simp only[CD,List.mem_cons] at h;rcases h with rfl | h
      · exact .inl ⟨0,t,cs,rfl,rfl⟩
      · exact tl h
    |mapI es=>
      simp only[CD,List.mem_cons] at h;rcases h with rfl | h
      · exact .inr ⟨0,es,rfl,rfl⟩
      · exact tl h
    |_=>exact tl h
theorem A4{m:Nat→Lc}:∀(k:Nat) (bs:List Box) (j:Nat),(∀(t:Nat) (cs:List AV),bs[j]? =some (.cells t cs)→((.ptr (k+j) t 0,.pointer (some ⟨(m (k+j)).g,(m (k+j)).base,none⟩)):AV×Value)∈CD m k bs)∧∀es,bs[j]? =some (.mapI es)→((.mp (k+j),.map (some (m (k+j)).g)):AV×Value)∈CD m k bs
  |_,[],j=>⟨fun t cs h=>by simp at h,fun es h=>by simp at h⟩
  |k,b::r,j=>by
    cases j with
    |zero=>exact⟨fun t cs h=>by simp at h;subst h;exact List.mem_cons_self,fun es h=>by simp at h;subst h;exact List.mem_cons_self⟩
    |succ j=>
      have ih:=A4 (m:=m) (k+1) r j;rw[show k+1+j=k+(j+1) by omega] at ih
      refine⟨fun t cs h=> ?_,fun es h=> ?_⟩
      · have:=ih.1 t cs (by simpa using h)
        cases b<;>first | exact List.mem_cons_of_mem _ this | exact this
      · have:=ih.2 es (by simpa using h)
        cases b<;>first | exact List.mem_cons_of_mem _ this | exact this
structure PuH (P:Program) (gl:Nat→AV) (f:Nat) (args:List AV) (bs:List Box) (r:AV) (bs':List Box):Prop where
  ok:∀(m:Nat→Lc) (H:HV) (B:Nat→Prop) (H0:HV) (rest:List (AV×Value)) (w:World) (vs:Array Value),RelH m H B H0 gl (lkb (hpOf 0 bs)) bs.length w→args.length=vs.size→
    (∀(j:Nat) (x:AV) (v:Value),args[j]? =some x→vs[j]? =some v→RV H (Q6 (lkb (hpOf 0 bs)) m) x v)→rest.map (·.1)=KH 0 bs→(∀p∈rest,RV H (Q6 (lkb (hpOf 0 bs)) m) p.1 p.2)→
    Ans P f vs w fun e w'=>∃v m' H',e= .returned v∧Qa B w w'∧RelH m' H' B H0 gl (lkb (hpOf 0 bs')) bs'.length w'∧RV H' (Q6 (lkb (hpOf 0 bs')) m') r v∧∀p∈rest,RV H' (Q6 (lkb (hpOf 0 bs')) m') p.1 p.2
theorem PuH.zero{P:Program}{gl:Nat→AV}{f:Nat}{args:List AV}{r:AV}{a3:List Box}(h:PuH P gl f args [] r a3):Vr P gl f args r (hpOf 0 a3) a3.length:=fun m H B H0 w vs hh hl hv=>
  (h.ok m H B H0 [] w vs hh hl hv rfl (fun p hp=>by simp at hp)).mono fun e w' ⟨v,m',H',a,b,c,d,_⟩=>⟨v,m',H',a,b,c,d⟩
def wgive1(kb:List KB)(n:Nat)(Q:List AV→List Box→List Nat→St→Prop)(sc:St):Prop:=
  match nodN (V3 sc kb) with
  |true=>match EB (lkb sc.hp) (V3 sc kb) (V3 sc kb) with
    |some bs=>Q ((List.range n).map fun k=>ren (lkb sc.hp) (V3 sc kb) 12 (sc.get k)) bs (V3 sc kb) sc
    |none=>False
  |false=>False
def Be(kb:List KB)(args:List AV)(hp:Tr Box)(nx:Nat)(Q:List AV→List Box→List Nat→St→Prop):Prop:=
  KG kb ⟨args.length,Kw 0 args,hp,nx⟩ (wgive1 kb args.length Q)
def Fj(ids:List Nat)(sc:St)(a3:List Box)(r:AV)(K:AV→Tr Box→Nat→Prop):Prop:=
  match MN (lkb sc.hp) ids a3 sc.nx with
  |some ps=>K (mapR (gB ps a3) 12 r) (Db (gB ps a3) sc.hp ps a3) (sc.nx+(a3.length - ids.length))
  |none=>False
section
variable {P : Program} {gl : Nat → AV} {m : Nat → Lc} {H : HV} {B : Nat → Prop} {H0 : HV} {rest : List (AV × Value)} {st : St} {a : Act} {w : World}
theorem By(h:RelS m H B H0 gl rest st a.tmps w){dst:Option Nat}(hd:Z2 dst st.n=true){f:Nat}{args:List AV}{vs:Array Value}(hl:args.length=vs.size)(hv:∀(j:Nat) (x:AV) (v:Value),args[j]? =some x→vs[j]? =some v→RV H (st.env m) x v)
    {kb:List KB} {K:St→Prop} {Q:List AV→List Box→List Nat→St→Prop}
    (hQ:∀ab ba ids sc,Q ab ba ids sc→∃r a4,PuH P gl f ab ba r a4∧Fj ids sc a4 r (fun rr hp' nx'=>K ((st.setHp hp' nx').putO dst rr)))
    (hw:Be kb args st.hp st.nx Q):
    Ans P f vs w fun e w'=>∃st' v m' H',K st'∧e= .returned v∧Qa B w w'∧RelS m' H' B H0 gl rest st' (a.put dst v).tmps w':=by
  unfold Be at hw;obtain⟨sc,ay,hw⟩:=Yk (gl:=gl) hw;have bp:RelS m H B H0 gl ((List.range st.n).map (fun k=>(st.get k,a.tmps.getD k Go.undef))++rest) ⟨args.length,Kw 0 args,st.hp,st.nx⟩ vs w:=by
    refine⟨h.heap,hl.symm,fun k=> ?_,h.hold⟩
    show RV H _ (lk .undef (Kw 0 args) k) _;rw[Nd,if_pos (Nat.zero_le _),Nat.sub_zero];cases hx:args[k]? with
    |none=>exact .imm _ _ (.undef _)
    |some x=>
      have hk:k<vs.size:=by rw[← hl];exact(cqd.1 hx).1
      rw[show vs.getD k Go.undef=vs[k] by rw[cqj,cqh hk];rfl]
      exact hv k x _ hx (cqh hk)
  obtain⟨m1,H1,hs⟩:=ay.2 m H B H0 _ vs w bp;unfold wgive1 at hw;split at hw
  · rename_i an
    split at hw
    · rename_i bs ax
      generalize hids:V3 sc kb=ids at*;obtain⟨r,a4,bu,a5⟩:=hQ _ _ _ _ hw;unfold Fj at a5;split at a5
      · rename_i ps b5
        have br:=hs.heap.offB ids;obtain⟨ap,ao⟩:=hs.heap.sub (B':=OffB (lkb sc.hp) m1 ids w) (H1:=H1) an ax (fun _ _ _=>rfl) (fun _ hk=>hk.1) (fun j id b hj hb hr hB=>hB.2 j id b hj hb hr rfl) (fun g sz cs hg=>let⟨h1,h2⟩:=hs.heap.gv g sz cs hg;⟨br g h1,h2⟩)
        generalize hm0:(fun(j:Nat)=>m1 ((ids[j]?).getD 0))=m0 at ap ao
        have bm:∀j,lkb (hpOf 0 bs) j=bs[j]? :=fun j=>by rw[Nf];simp
        have am:∀j,lkb (hpOf 0 a4) j=a4[j]? :=fun j=>by rw[Nf];simp
        refine(bu.ok m0 H1 _ H1 (CD m0 0 bs) w vs ap (by simpa using hl) (fun j x v hx c0=> ?_) (PQ 0 bs) (fun p hp=> ?_)).mono fun e w' b4=> ?_
        · have az:j<args.length:=by have:=(cqd.1 hx).1;simpa using this
          simp[az] at hx;subst hx;have:=hs.slot j;rw[show vs.getD j Go.undef=v by rw[cqj,c0];rfl] at this
          exact ao 12 _ _ this
        · rcases PR 0 bs p hp with⟨j,t,cs,h1,rfl⟩ | ⟨j,es,h1,rfl⟩<;>rw[Nat.zero_add]
          · have hb:lkb (hpOf 0 bs) j=some (.cells t cs):=by rw[bm];exact h1
            refine .ptr _ _ _ _ (OX hb rfl) fun l hl=> ?_
            rw[Je hb rfl] at hl;cases hl;rfl
          · exact .mp _ _ (by simp[Q6,bm,h1])
        · obtain⟨v,m',H',rfl,bg,hH,bx,ag⟩:=b4
          have bo:∀(j id v:Nat) (cs:List AV),ids[j]? =some id→lkb sc.hp id=some (.cells v cs)→m' j=m1 id:=fun j id v cs hj a6=>by
            obtain⟨aw,a8⟩:=EC ax;obtain⟨b0,b1,e1,e2,e3⟩:=a8 j id hj;rw[a6] at e1;cases e1;rcases EA e2 with⟨v1,cj,e4,rfl⟩ | ⟨_,_,_,e4,_⟩ | ⟨_,_,_,_,_,_,e4,_⟩ | ⟨_,e4,_⟩
            · cases e4
              obtain⟨bl,bw,a9⟩:=NX b5;have az:=(cqd.1 hj).1;have ae:j<a4.length:=by omega
              have b2:j<ps.length:=by omega
              have b6:=a9 j ps[j].1 ps[j].2 a4[j] (cqc b2) (cqc ae);rcases b6.here with⟨v2,bq,t2,cs',f1,f2,f3,f4,f5⟩ | ⟨v2,sz,xs,v',c3,c5,f1,f2,f3,f4⟩ | ⟨es,bb,f1,f2,f3,f4⟩ | ⟨a1,_,_⟩
              · rw[hj] at f1;injection f1 with f1
                rw[← f1,a6] at f2;cases f2;have ah:lkb (hpOf 0 a4) j=some (.cells t2 cs'):=by rw[am,cqc ae,f3]
                have hp:=ag _ ((A4 (m:=m0) 0 bs j).1 _ _ e3);rw[Nat.zero_add] at hp;obtain⟨ad,ak,_,bn⟩:=hp.ptr_inv;have af:m0 j=m1 id:=by rw[← hm0];simp[hj]
                have:=bn (m' j) (by rw[f5];exact Je ah rfl)
                simp only[Value.pointer.injEq,cqf] at ak;subst ak;simp only[Addr.mk.injEq] at this;obtain⟨g1,g2,_⟩:=this;rw[af] at g1 g2;obtain⟨C,e,c1,c2,_,_⟩:=hs.heap.box id _ a6;obtain⟨C1,cl,d1,d2,_,_⟩:=hH.box j _ ah;obtain⟨C2,cn,k1,k2⟩:=bg.rows _ C e _ c1;rw[← g1] at d1;rw[d1] at k1;cases k1;have ai:(m' j).size=(m1 id).size:=by rw[← d2,← c2];exact k2
                cases hmj:m' j with
                |mk a b c=>cases hmi:m1 id with
                  |mk a' b' c'=>
                    rw[hmj] at g1 g2 ai;rw[hmi] at g1 g2 ai;simp only[Nat.add_zero] at g2;simp only at g1 ai;rw[g1,g2,ai]
              · rw[hj] at f1;injection f1 with f1
                rw[← f1,a6] at f2;cases f2
              · rw[hj] at f1;injection f1 with f1
                rw[← f1,a6] at f2;cases f2
              · omega
            · cases e4
            · cases e4
            · cases e4
          have b3:∀(j id:Nat) (es:List (List UInt8×Int)),ids[j]? =some id→lkb sc.hp id=some (.mapI es)→(m' j).g=(m1 id).g:=fun j id es hj a6=>by
            obtain⟨aw,a8⟩:=EC ax;obtain⟨b0,b1,e1,e2,e3⟩:=a8 j id hj;rw[a6] at e1;cases e1;cases e2;obtain⟨bl,bw,a9⟩:=NX b5;have az:=(cqd.1 hj).1;have ae:j<a4.length:=by omega
            have b2:j<ps.length:=by omega
            have b6:=a9 j ps[j].1 ps[j].2 a4[j] (cqc b2) (cqc ae);have hp:=ag _ ((A4 (m:=m0) 0 bs j).2 _ e3);rw[Nat.zero_add] at hp;obtain⟨l,bh,bk⟩:=hp.mp_inv;have af:m0 j=m1 id:=by rw[← hm0];simp[hj]
            simp only[Value.map.injEq,cqf] at bh;rcases b6.here with⟨v2,bq,t2,cs',f1,f2,f3,f4,f5⟩ | ⟨v2,sz,xs,v',c3,c5,f1,f2,f3,f4⟩ | ⟨cm,bb,f1,f2,f3,f4⟩ | ⟨a1,_,_⟩
            · rw[hj] at f1;injection f1 with f1
              rw[← f1,a6] at f2;cases f2
            · rw[hj] at f1;injection f1 with f1
              rw[← f1,a6] at f2;cases f2
            · have ah:lkb (hpOf 0 a4) j=some (.mapI bb):=by rw[am,cqc ae,f3]
              simp only[Q6,ah,cqf] at bk;rw[bk,← bh,af]
            · omega
          obtain⟨M,hR,hE,bf,bz,bv⟩:=back_ok hs.heap an b5 hH bg bo b3;exact⟨_,v,M,H',a5,rfl,bv,h.taken hd hR (bz r v bx) fun p hp=>(hs.rest p hp).mono bf hE⟩
      · cases a5
    · cases hw
  · cases hw
theorem Q8n(h:RelS m H B H0 gl rest st a.tmps w){dst:Option Nat}(hd:Z2 dst st.n=true){f:Nat}{ts:List AV}{vs:Array Value}(hl:ts.length=vs.size)(hv:∀(j:Nat) (x:AV) (v:Value),ts[j]? =some x→vs[j]? =some v→RelI H x v){r:AV}(hp:Pu P gl f ts r):
    Ans P f vs w fun e w'=>∃v m' H',e= .returned v∧Qa B w w'∧RelS m' H' B H0 gl rest (st.putO dst r) (a.put dst v).tmps w':=by
  have h0:RelH m H (fun k=>k<w.heap.size) H gl (lkb .nil) 0 w:=
    {sat:=h.heap.sat,old:=fun _ _ _=>rfl,low:=fun _ hk=>hk,fresh:=fun _ _=>ZD _,box:=(fun _ _ hh=>by rw[ZD] at hh;cases hh),sepR:=(fun _ _ hh=>by rw[ZD] at hh;cases hh),injR:=(fun _ _ _ _ hh=>by rw[ZD] at hh;cases hh),gl:=h.heap.gl,ty:=(fun _ _ _ hh=>by rw[ZD] at hh;cases hh),gv:=fun g sz cs hg=>let⟨h1,h2⟩:=h.heap.gv g sz cs hg;⟨h.heap.low _ h1,h2⟩}
  refine(hp.ok m H _ H w vs h0 hl (fun j x v hx a7=>.imm _ _ (hv j x v hx a7))).mono fun e w' a4=> ?_
  obtain⟨v,m',H',rfl,a5,hH,a6⟩:=a4;obtain⟨hA,a9⟩:=h.after a5.toB H' hH.sat;refine⟨v,m,_,rfl,a5.mono h.heap.low,hA.putO hd (.imm _ _ ((Q0q a6).mono fun b o u hu=> ?_))⟩
  by_cases hlt:b<w.heap.size
  · simp only[if_pos hlt];rw[← hH.old b o hlt];exact hu
  · simp only[if_neg hlt];exact hu
end
end HY
