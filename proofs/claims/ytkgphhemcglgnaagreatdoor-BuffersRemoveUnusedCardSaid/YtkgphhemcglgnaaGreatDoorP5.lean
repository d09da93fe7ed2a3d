/- Proved in the last of these texts: for every input the law returns true and its arguments read afterwards as they read before. This text: a part of the proof. -/
import Derived.Test.YtkgphhemcglgnaaGreatDoorP4
import Derived.Lib.Bytealg
set_option linter.unusedVariables false
set_option linter.unusedSimpArgs false
section
namespace Go.Proofs.YtkgphhemcglgnaaGreatDoor
open Go HY
set_option maxRecDepth 1000000
noncomputable def WJ(f:Nat)(hs:Zg)(js:List (Nat×JH))(l:Nat)(xs:List (List AV))(args:List AV)(p:Option Nat)(b:Bool)(m:Nat):Prop:=jfun Tryz.prog gls ch0 wf0 gds 2000 f hs js l xs args p b m
theorem JF1{φ:Prop}{f:Nat}{hs:Zg}{js:List (Nat×JH)}{l:Nat}{xs:List (List AV)}{args:List AV}{p:Option Nat}{b:Bool}{m:Nat}(e:φ=WJ f hs js l xs args p b m)(h:φ):JF Tryz.prog gls l xs f args p b m:=JF.of (hs:=hs) (js:=js) Dj DP V0 (show WJ f hs js l xs args p b m from e▸h)
abbrev JLo(f r n:Nat)(l:Nat)(xs:List (List AV))(ks:List Nat)(vs:List AV)(bs:List Box)(p:Option Nat)(kx:List Nat)(x y:Exit×List AV)(m:Nat):Prop:=JL Tryz.prog gls l xs n (Uj Tryz.prog f (r+1)) ks vs bs p kx x y m
noncomputable def WJR(f r n:Nat)(hs:Zg)(js:List (Nat×JH))(l:Nat)(xs:List (List AV))(ks:List Nat)(kb:List KB)(vs:List AV)(bs:List Box)(p:Option Nat)(kx:List Nat)(x y:Exit×List AV)(m:Nat):Prop:=
 jround Tryz.prog gls ch0 wf0 hs js l xs 2000 n (Uj Tryz.prog f (r+1)) ks kb vs bs p kx x y m (NxtJ Tryz.prog gls l xs n (Uj Tryz.prog f (r+1)) ks kx x y m)
theorem JL1{φ:Prop}{f r n:Nat}{hs:Zg}{js:List (Nat×JH)}{l:Nat}{xs:List (List AV)}{ks:List Nat}{kb:List KB}{vs:List AV}{bs:List Box}{p:Option Nat}{kx:List Nat}{x y:Exit×List AV}{m:Nat}(a3:(QT (Uj Tryz.prog f (r+1))&& !Qz (Uj Tryz.prog f (r+1))&& !Dm x.1&& !Dm y.1)=true)(e:φ=WJR f r n hs js l xs ks kb vs bs p kx x y m)(h:φ):JLo f r n l xs ks vs bs p kx x y m:=by
 simp only[Bool.and_eq_true,Bool.not_eq_true'] at a3;exact JL.step (hs:=hs) (js:=js) Dj DP CR a3.1.1.1 a3.1.1.2 a3.1.2 a3.2 (show WJR f r n hs js l xs ks kb vs bs p kx x y m from e▸h)
abbrev RG(f r n:Nat)(ks:List Nat)(vs:List AV)(alts:List Alt)(xs:List (List AV))(bs:List Box):Prop:=L2 Tryz.prog gls [] n (rng Tryz.prog f (r+1)).1 (rng Tryz.prog f (r+1)).2.1 (rng Tryz.prog f (r+1)).2.2 ks vs alts xs bs
noncomputable def WG(f r n:Nat)(hs:Zg)(ks:List Nat)(kb kbx:List KB)(vs:List AV)(alts:List Alt)(x:List AV)(xs:List (List AV))(bs:List Box):Prop:=
 wrng Tryz.prog gls ch0 wf0 hs [] 2000 n (rng Tryz.prog f (r+1)).1 (rng Tryz.prog f (r+1)).2.1 (rng Tryz.prog f (r+1)).2.2 ks kb kbx vs alts x bs (NxtR Tryz.prog gls [] n (rng Tryz.prog f (r+1)).1 (rng Tryz.prog f (r+1)).2.1 (rng Tryz.prog f (r+1)).2.2 ks vs alts xs)
theorem Rg1{φ:Prop}{f r n:Nat}{hs:Zg}{ks:List Nat}{kb kbx:List KB}{vs:List AV}{alts:List Alt}{x:List AV}{xs:List (List AV)}{bs:List Box}(a3:(QT (rng Tryz.prog f (r+1)).2.1&&QT (rng Tryz.prog f (r+1)).2.2)=true)(e:φ=WG f r n hs ks kb kbx vs alts x xs bs)(h:φ):RG f r n ks vs alts (x::xs) bs:=by
 rw[Bool.and_eq_true] at a3;exact L2.step (hs:=hs) Dj DP CR a3.1 a3.2 (show WG f r n hs ks kb kbx vs alts x xs bs from e▸h)
theorem Rg0{f r n:Nat}{ks:List Nat}{vs:List AV}{alts:List Alt}{bs:List Box}(h:Lm ks vs=true)(ho:Out alts .normal vs bs):RG f r n ks vs alts [] bs:=⟨h,ho⟩
end Go.Proofs.YtkgphhemcglgnaaGreatDoor
end
section
namespace HY
open Go
def wp{α:Type}(x:Option α)(Q:α→Prop):Prop:=∃a,x=some a∧Q a
section
variable {α β : Type} {Q : β → Prop}
theorem Dq{x:β}:wp (some x) Q↔Q x:=⟨fun⟨_,e,h⟩=>by cases e;exact h,fun h=>⟨x,rfl,h⟩⟩
theorem loopUp{F:α→Int→Option β}(n:Nat)(I:Int→α→Prop)(a4:∀a,I n a→wp (F a n) Q)(step:∀(i:Int) a,0≤i→i<n→I i a→(∀a',I (i+1) a'→wp (F a' (i+1)) Q)→wp (F a i) Q):
    ∀(i:Int) a,0≤i→i≤n→I i a→wp (F a i) Q:=by
  have key:∀(d:Nat) (i:Int) a,0≤i→i+d=n→I i a→wp (F a i) Q:=by
    intro d
    induction d with
    | zero => intro i a _ e hI; have : i = n := by omega
              subst this;exact a4 a hI
    |succ d ih=>intro i a h0 e hI;exact step i a h0 (by omega) hI (fun a' a7=>ih (i+1) a' (by omega) (by omega) a7)
  intro i a h0 h1 hI;exact key (n - i.toNat) i a h0 (by omega) hI
theorem Rj{F:α→Int→Option β}(n:Nat)(a3:∀a,wp (F a n) Q)(step:∀(i:Int) a,0≤i→i<n→(∀a',wp (F a' (i+1)) Q)→wp (F a i) Q)(i:Int)(a:α)(h0:0≤i)(h1:i≤n):wp (F a i) Q:=
 loopUp n (fun _ _=>True) (fun a _=>a3 a) (fun i a h0 h1 _ h=>step i a h0 h1 (fun a'=>h a' trivial)) i a h0 h1 trivial
theorem loopUp0{F:Int→Option β}(n:Nat)(a3:wp (F n) Q)(step:∀(i:Int),0≤i→i<n→wp (F (i+1)) Q→wp (F i) Q):
  ∀(i:Int),0≤i→i≤n→wp (F i) Q:=fun i h0 h1=>by
 refine loopUp (F:=fun(_:Unit) i=>F i) n (fun _ _=>True) (fun _ _=>a3) (fun i a h0 h1 _ h=>step i h0 h1 (h () trivial)) i () h0 h1 trivial
theorem Mz{γ:Type}{F:Int→Option β}{l:List γ}(S:List γ→β)(a3:F l.length=some (S []))(step:∀(i:Int) (x:γ) (t:List γ),0≤i→i<l.length→ix l i=some x→F (i+1)=some (S t)→F i=some (S (x::t))):F 0=some (S l):=by
  have key:∀(t p:List γ),l=p++t→F p.length=some (S t):=by
    intro t
    induction t with
    | nil => intro p e; have : p.length = l.length := by rw [e]; simp
             rw[this];exact a3
    |cons x t ih=>
      intro p e;refine step p.length x t (by omega) (by rw[e];simp;omega) ?_ ?_
      · unfold ix;rw[if_pos (by omega),Int.toNat_natCast,e,List.getElem?_append_right (Nat.le_refl _)];simp
      · have:=ih (p++[x]) (by rw[e];simp)
        rw[← this];simp
  exact key l [] rfl
theorem Xh{γ:Type}{F:α→Int→Option β}{l:List γ}(I:α→List γ→Prop)(S:α→List γ→β)(a4:∀a,I a []→F a l.length=some (S a []))(step:∀(i:Int) (x:γ) (t:List γ) a,0≤i→i<l.length→x∈l→ix l i=some x→I a (x::t)→(∀a,I a t→F a (i+1)=some (S a t))→F a i=some (S a (x::t)))(a:α)(hI:I a l):F a 0=some (S a l):=by
  have key:∀(t p:List γ),l=p++t→∀a,I a t→F a p.length=some (S a t):=by
    intro t
    induction t with
    | nil => intro p e a hI; have : p.length = l.length := by rw [e]; simp
             rw[this];exact a4 a hI
    |cons x t ih=>
      intro p e a hI;refine step p.length x t a (by omega) (by rw[e];simp;omega) (by rw[e];simp) ?_ hI ?_
      · unfold ix;rw[if_pos (by omega),Int.toNat_natCast,e,List.getElem?_append_right (Nat.le_refl _)];simp
      · intro a hI
        have:=ih (p++[x]) (by rw[e];simp) a hI
        rw[← this];simp
  exact key l [] rfl a hI
theorem Q18{γ:Type}{F:α→Int→Option β}{l:List γ}(I:α→List γ→Prop)(a4:∀a,I a []→wp (F a l.length) Q)(step:∀(i:Int) (x:γ) (t:List γ) a,0≤i→i<l.length→x∈l→ix l i=some x→(∃p,l=p++x::t∧(p.length:Int)=i)→I a (x::t)→(∀a,I a t→wp (F a (i+1)) Q)→wp (F a i) Q)(a:α)(hI:I a l):wp (F a 0) Q:=by
  have key:∀(t p:List γ),l=p++t→∀a,I a t→wp (F a p.length) Q:=by
    intro t
    induction t with
    | nil => intro p e a hI; have : p.length = l.length := by rw [e]; simp
             rw[this];exact a4 a hI
    |cons x t ih=>
      intro p e a hI;refine step p.length x t a (by omega) (by rw[e];simp;omega) (by rw[e];simp) ?_ ⟨p,e,rfl⟩ hI ?_
      · unfold ix;rw[if_pos (by omega),Int.toNat_natCast,e,List.getElem?_append_right (Nat.le_refl _)];simp
      · intro a hI
        have:=ih (p++[x]) (by rw[e];simp) a hI
        rw[show((p++[x]).length:Int)=(p.length:Int)+1 by simp] at this
        exact this
  exact key l [] rfl a hI
end
theorem ZB{n:Int}(h: -9223372036854775808≤n∧n≤9223372036854775807):wr n=n:=by unfold wr;rw[IntKind.wrap_i64];omega
theorem PF{n:Int}{k:Nat}(h0:0≤n)(h1:n<k)(hk:k≤1099511627776):wr (n+1)=n+1:=ZB (by omega)
theorem zl:(∀ {α:Type} {a3 bs:List α},(a3++bs).length=a3.length+bs.length)∧(∀ {α:Type} {i:Nat} {l:List α},(l.drop i).length=l.length - i)∧(∀ {α:Type} {i:Nat} {l:List α},(l.take i).length=min i l.length)∧(∀ {α:Type},([]:List α).length=0)∧(∀ {α:Type} {a:α},[a].length=1)∧(∀ {α β:Type} {a3:List α} (f:α→β),(a3.map f).length=a3.length):=
 ⟨List.length_append,List.length_drop,List.length_take,List.length_nil,List.length_singleton,fun _=>List.length_map ..⟩
end HY
end
section
namespace HY
open Go
section
variable {α : Type} {f : α → Nat}
end
theorem Qa.ind{P:Qa→Prop}(h:∀x:Q1,(∀a∈x.ff,P a)→P (.mk x)):∀e,P e
 | .mk x=>h x (fun a ha=>Qa.ind h a)
 termination_by e=>sizeOf e
 decreasing_by exact Qa.lt ha
theorem Q0.ind{P:Q0→Prop}(h:∀x:Qg,(∀a∈x.fb,P a)→P (.mk x)):∀e,P e
 | .mk x=>h x (fun a ha=>Q0.ind h a)
 termination_by e=>sizeOf e
 decreasing_by exact Q0.lt ha
def Qy:Qa→List Qa
 | .mk x=>.mk x::(x.ff.attach.map fun a=>Qy a.1).flatten
 termination_by e=>SizeOf.sizeOf e
 decreasing_by exact Qa.lt a.2
theorem KK(x:Q1):Qy (.mk x)= .mk x::(x.ff.map Qy).flatten:=by rw[Qy];simp
def YJ(l:List Qa):List Qa:=(l.map Qy).flatten
theorem Wr(a:Qa)(l:List Qa):YJ (a::l)=Qy a++YJ l:=by simp[YJ]
end HY
end
section
namespace Go.Proofs.YtkgphhemcglgnaaGreatDoor
open Go HY
set_option maxRecDepth 1000000
inductive aE:Qa→Prop
 |mk (x:Q1):x.ff.length≤4611686018427387904→(∀a∈x.ff,aE a)→aE (.mk x)
theorem aE.of{x:Q1}(h:aE (.mk x)):x.ff.length≤4611686018427387904∧∀a∈x.ff,aE a:=by
 cases h with
 |mk _ h1 h2=>exact⟨h1,h2⟩
abbrev SE:= {x:Q1//aE (.mk x)}
def NC(x:SE):AV:=.fn 139 [.ip 13 [Q5 x.1] 0 0]
def yvl(l:Nat):AV:=.val (.func (.yield l) #[] #[])
theorem Q24{l:Nat}{xs:List (List AV)}{m n:Nat}{a:List Qa}(hn:a.length=n)(a5:n≤4611686018427387904)
  (hF:∀e∈a,∀k,(∀(j:Nat) (y:Qa),(Qy e)[j]? =some y→xs[k+j]? =some [Q5 y.f])→JF Tryz.prog gls l xs 140 [Q5 e.f,yvl l] (some k) true (k+(Qy e).length)):
  ∀(t p:List Qa) (k:Nat),a=p++t→k+(YJ t).length=m→(∀(j:Nat) (y:Qa),(YJ t)[j]? =some y→xs[k+j]? =some [Q5 y.f])→
   JLo 140 4 23 l xs [1,12,13,14] [yvl l,.sl 13 (a.map Qi),ii n,ii p.length] [] (some k) [4] (.exit 0,[.undef]) (.ret,[.bool false]) m
 |t,p,k,ha,hm,hx=>by
  refine JL1 (φ:=(decide ((p.length:Int)<n)=true→∃x:Q1,((0:Int)≤p.length∧(a.map Qi)[Int.toNat p.length]? =some (Q5 x))∧∃q,JF Tryz.prog gls l xs 140 [Q5 x,yvl l] (some k) true q∧
   NxtJ Tryz.prog gls l xs 23 (Uj Tryz.prog 140 (4+1)) [1,12,13,14] [4] (.exit 0,[.undef]) (.ret,[.bool false]) m [yvl l,.sl 13 (a.map Qi),ii n,ii (wr ((p.length:Int)+1))] [] (some q)∧JO (.exit 0,[.undef]) (.ret,[.bool false]) m .ret none [.bool false] [])∧
   (decide ((p.length:Int)<n)=false→JO (.exit 0,[.undef]) (.ret,[.bool false]) m (.exit 0) (some k) [.undef] [])) (hs:=[(15,.split),(16,.e Q5)]) (js:=[]) (kb:=[]) (by kernel_rfl) (by kernel_rfl) ⟨fun h=> ?_,fun h=> ?_⟩
  ·have h:=of_decide_eq_true h;cases t with
   |nil=>subst ha;simp at hn;omega
   |cons e t=>
    have a7:p.length<a.length:=by rw[ha];simp
    refine⟨e.f,⟨by omega,?_⟩,k+(Qy e).length,hF e (by rw[ha];simp) k (fun j y hj=>hx j y ?_),⟨_,_,?_,.refl _,Q24 hn a5 hF t (p++[e]) (k+(Qy e).length) (by rw[ha];simp) (by rw[← hm,Wr];simp;omega) (fun j y hj=> ?_)⟩,.b rfl rfl rfl⟩
    ·rw[List.getElem?_map,ha,Int.toNat_natCast,List.getElem?_append_right (Nat.le_refl _)];simp[XH]
    ·rw[Wr,List.getElem?_append_left (List.getElem?_eq_some_iff.1 hj).1];exact hj
    ·rw[show wr ((p.length:Int)+1)=((p++[e]).length:Int) by rw[ZB (by omega)];simp]
     exact .refl _
    ·rw[Nat.add_assoc];exact hx _ y (by rw[Wr,List.getElem?_append_right (Nat.le_add_right _ _),Nat.add_sub_cancel_left];exact hj)
  ·have h:=of_decide_eq_false h;cases t with
   |nil=>exact .a rfl (by rw[← hm];rfl) rfl
   |cons e t=>rw[ha] at hn;simp at hn;omega
theorem wk_walk(l:Nat)(xs:List (List AV)):∀(e:Qa),aE e→∀k,(∀(j:Nat) (y:Qa),(Qy e)[j]? =some y→xs[k+j]? =some [Q5 y.f])→JF Tryz.prog gls l xs 140 [Q5 e.f,yvl l] (some k) true (k+(Qy e).length):=
 Qa.ind fun x ih hw k hx=>by
  obtain⟨a3,a4⟩:=hw.of;have h0:=hx 0 (.mk x) (by rw[KK];rfl)
  refine JF1 (φ:=l=l∧xs[k]? =some [Q5 x]∧(∃q,JLo 140 4 23 l xs [1,12,13,14] [yvl l,.sl 13 (x.ff.map Qi),ii ((x.ff.map Qi).length:Nat),ii 0] [] (some (k+1)) [4] (.exit 0,[.undef]) (.ret,[.bool false]) q∧JQ true (k+(Qy (.mk x)).length) (.bool true) (some q)∧JQ true (k+(Qy (.mk x)).length) (.bool false) none)∧JQ true (k+(Qy (.mk x)).length) (.bool false) none)
   (hs:=[]) (js:=[(5,⟨[1,12,13,14],[],[4],(.exit 0,[.undef]),(.ret,[.bool false])⟩)]) (by kernel_rfl) ⟨rfl,h0,⟨_,?_,.inl ⟨rfl,rfl⟩,.inr ⟨rfl,rfl⟩⟩,.inr ⟨rfl,rfl⟩⟩
  have:=Q24 (l:=l) (xs:=xs) (m:=k+(Qy (.mk x)).length) (n:=x.ff.length) (a:=x.ff) rfl a3 (fun e he=>ih e he (a4 e he)) x.ff [] (k+1) rfl (by rw[KK];simp[YJ];omega) (fun j y hj=>by
   have:=hx (j+1) y (by rw[KK];exact hj)
   rw[← this];congr 1;omega)
  rw[List.length_map];exact this
theorem R9(x:SE):ItOk Tryz.prog gls 139 [.ip 13 [Q5 x.1] 0 0] ((Qy (.mk x.1)).map fun y=>[Q5 y.f]):=
 ItOk.of (Ko (by kernel_rfl)) false fun l=>
  JF1 (φ:=∃q,JF Tryz.prog gls l ((Qy (.mk x.1)).map fun y=>[Q5 y.f]) 140 [Q5 x.1,yvl l] (some 0) true q∧JQ false (((Qy (.mk x.1)).map fun y=>[Q5 y.f]).length) (.tup []) (some q)∧JQ false (((Qy (.mk x.1)).map fun y=>[Q5 y.f]).length) (.tup []) none)
   (hs:=[]) (js:=[]) (by kernel_rfl) ⟨_,wk_walk l _ (.mk x.1) x.2 0 (fun j y hj=>by rw[Nat.zero_add,List.getElem?_map,hj];rfl),⟨rfl,.inl (by simp)⟩,⟨rfl,.inr rfl⟩⟩
open Classical in
noncomputable def UJ(x0:Q1):Option SE:=if h:aE (.mk x0) then some ⟨x0,h⟩ else none
theorem Iz(x:Q1)(h:aE (.mk x)):UJ x=some ⟨x,h⟩:=dif_pos h
theorem Mc(x0:Q1)(r:SE)(h:UJ x0=some r):PU 98 [Q5 x0] (NC r):=by
 unfold UJ at h;split at h
 ·cases h;exact Pu1 (φ:=LeT (.fn 139 [.ip 13 [Q5 x0] 0 0]) (.fn 139 [.ip 13 [Q5 x0] 0 0])) (hs:=[]) (by kernel_rfl) (.refl _)
 ·cases h
end Go.Proofs.YtkgphhemcglgnaaGreatDoor
end
section
namespace Go.Proofs.YtkgphhemcglgnaaGreatDoor
open Go HY
set_option maxRecDepth 1000000
theorem cmpRun(a b:ByteArray)(w:World):(callFunc 401 #[.string a,.string b]).run Tryz.prog w= .ok (.value (.int .i64 (Lib.compareBytes a.data.toList b.data.toList))) w:=by
 rw[run_callFunc_extern (fn:=Tryz.f401) (e:=Extern.BytealgCompare.compare) (by kernel_rfl) (by kernel_rfl) (by kernel_rfl) (by kernel_rfl) (by kernel_rfl) #[.string a,.string b] w]
 rw[Lib.run_compareString];rfl
def xe0:Qo:=xcmp 401
theorem Ga:Qo.Ok Tryz.prog gls xe0:=xcmp_ok cmpRun
def kws:List AV:=[.str [115,105,122,101],
 .str [119,104,101,114,101],
 .str [105,110],
 .str [100,101,102],
 .str [111,117,116],
 .str [115,117,109],
 .str [112,114,111,100],
 .str [109,105,110],
 .str [109,97,120],
 .str [115,99,97,110],
 .str [111,118,101,114],
 .str [105,102],
 .str [99,97,115,116],
 .str [102,114,97,99],
 .str [105,110,116],
 .str [102,105,120],
 .str [99,101,105,108],
 .str [102,108,111,111,114],
 .str [122,101,114,111],
 .str [101,118,101,110],
 .str [115,97,116],
 .str [119,114,97,112]]
def OO:Kd:=[(192,[],.bs 0 0 1 0 22,pt .nil 0 (.cells 0 kws),1)]
theorem EI:KF Tryz.prog gls OO:=fun e he=>by
 rw[OO,List.mem_singleton] at he;subst he;exact YS (Yh V0 Ga (T:=[]) (fun _ h=>by cases h) 40 (fl:=100000)) (by kernel_rfl)
end Go.Proofs.YtkgphhemcglgnaaGreatDoor
end
section
namespace Go.Proofs.YtkgphhemcglgnaaGreatDoor
open Go HY
set_option maxRecDepth 1000000
noncomputable def GC(x0:List Int):Option (List Int):=if x0.length*8≤140737488355328∧x0.length≤9223372036854775807 then some x0 else none
theorem Eu(x0:List Int)(r:List Int)(h:GC x0=some r):PU 47 [eLI x0] (eLI r):=by
 unfold GC at h;split at h
 ·rename_i hc;cases h;exact Pu1 (φ:=(List.map eI x0=[]→LeT .nil (.sl 1 (List.map eI x0)))∧(0=0∧(0+List.length (List.map eI x0))*8≤140737488355328∧0+List.length (List.map eI x0)≤9223372036854775807)∧∃l,(List.map eI l=[]++List.map eI x0∧List.length l=0+List.length (List.map eI x0))∧List.length l=List.length (List.map eI l)∧LeT (.sl 1 (List.map eI l)) (.sl 1 (List.map eI x0)))
   (hs:=[(4,.nn),(7,.z [{slot:=5,own:=1}] (some (.n eI 7 (some .a))))]) (by kernel_rfl)
   ⟨fun e=>by rw[e];exact .nil 1,⟨rfl,by simpa using hc⟩,x0,⟨rfl,by simp⟩,by simp,.refl _⟩
 ·cases h
end Go.Proofs.YtkgphhemcglgnaaGreatDoor
end
section
namespace HY
open Go
theorem kOc{ρ:Type}{r:ρ}{α:Type}{sh:α→AV}{xs:List AV}{n:Nat}{f:List α→Option ρ}{A:List α→Prop}(l:List α)(e:List.map sh l=xs)(hA:∀l,f l=some r→A l)(h:(if l.length=n then(some l>>=f) else none)=some r):∃l,(List.map sh l=xs∧l.length=n)∧A l:=by
 by_cases hn:l.length=n;·rw[if_pos hn] at h;exact⟨l,⟨e,hn⟩,hA l h⟩
 ·rw[if_neg hn] at h;cases h
end HY
end
section
namespace Go.Proofs.YtkgphhemcglgnaaGreatDoor
open Go HY
set_option maxRecDepth 1000000
noncomputable def WRp(ps:List AV)(f r n:Nat)(hs:Zg)(ks:List Nat)(kb:List KB)(kx:List Nat)(kbx:List KB)(alts:List Alt)(vs:List AV)(bs:List Box):Prop:=
 A5 Tryz.prog gls ch0 wf0 hs ps 2000 n (Uj Tryz.prog f (r+1)) ks kb kx kbx alts vs bs (Nxt Tryz.prog gls ps n (Uj Tryz.prog f (r+1)) ks kx alts)
theorem Lp1p{φ:Prop}{ps:List AV}{f r n:Nat}{hs:Zg}{ks:List Nat}{kb:List KB}{kx:List Nat}{kbx:List KB}{alts:List Alt}{vs:List AV}{bs:List Box}(a3:QT (Uj Tryz.prog f (r+1))=true)(e:φ=WRp ps f r n hs ks kb kx kbx alts vs bs)(h:φ):X7 Tryz.prog gls ps n (Uj Tryz.prog f (r+1)) ks vs bs kx alts:=
 X7.step Dj DP CR a3 (show WRp ps f r n hs ks kb kx kbx alts vs bs from e▸h)
abbrev LOp(ps:List AV)(f r n:Nat)(ks:List Nat)(vs:List AV)(bs:List Box)(kx:List Nat)(alts:List Alt):Prop:=X7 Tryz.prog gls ps n (Uj Tryz.prog f (r+1)) ks vs bs kx alts
end Go.Proofs.YtkgphhemcglgnaaGreatDoor
end
section
namespace Go.Proofs.YtkgphhemcglgnaaGreatDoor
open Go HY
set_option maxRecDepth 1000000
def kwL:List Str:=[[115,105,122,101],[119,104,101,114,101],[105,110],[100,101,102],[111,117,116],[115,117,109],[112,114,111,100],[109,105,110],[109,97,120],[115,99,97,110],[111,118,101,114],[105,102],[99,97,115,116],[102,114,97,99],[105,110,116],[102,105,120],[99,101,105,108],[102,108,111,111,114],[122,101,114,111],[101,118,101,110],[115,97,116],[119,114,97,112]]
theorem kwLe:∀(l:List AV) (s:List Str),l=s.map eS→LeEs (l.map fun x=>AV.agg [x]) (s.map eS)
 | [],[],_=>.nil
 |_::_,_::_,h=>by cases h;exact .cons (LeL.refl _) (kwLe _ _ rfl)
noncomputable def WS:Option (List Str):=some kwL
theorem Tp(r:List Str)(h:WS=some r):PU 192 [] (eLS r):=by
 cases h;have h0:Jc Tryz.prog gls 192 [] (.bs 0 0 1 0 22) (pt .nil 0 (.cells 0 kws)) 1:=EI _ (List.mem_singleton.2 rfl);exact Pu.le (Pu.ofCall (r:=.sl 1 (Gd 1 22 kws)) h0 (by kernel_rfl)) .nil (LeT.sl (show LeEs (Gd 1 22 kws) (kwL.map eS) from(show Gd 1 22 kws=kws.map (fun x=>AV.agg [x]) by kernel_rfl)▸kwLe kws kwL (by kernel_rfl)))
noncomputable def XO(x0:Str)(x1:Str):Option Int:=some (Lib.compareBytes x0 x1)
theorem GZ(x0:Str)(x1:Str)(r:Int)(h:XO x0 x1=some r):PU 401 [eS x0,eS x1] (eI r):=by
 cases h;exact Pu.ofCall (Ee.zero (Ga _ _ _ _ _ _ _ rfl)) rfl
end Go.Proofs.YtkgphhemcglgnaaGreatDoor
end
noncomputable section
namespace Go.Proofs.YtkgphhemcglgnaaGreatDoor
open Go HY
set_option maxRecDepth 1000000
def Vi(x0:Qb):Option Qb:=
 GC x0.fC>>=fun v0=>
 some (Qb.mk x0.fa x0.fd v0 x0.fF)
theorem N4(x0 r)(h:Vi x0=some r):PU 72 [Q4 x0] (Q4 r):=
 Pu2 (hs:=[(5,.c eLI)]) ((kC (sh:=eLI) (Eu x0.fC) fun v0=>(kEr (enc:=Q4) (Qb.mk x0.fa x0.fd v0 x0.fF))) h)
def Kq(s:(Str×Q9))(u:Int)(o:Qb ⊕ (Qb×Bool)):List Alt:=lp o (.exit 0) (fun _=>[.ptr 0 0 0,.undef]) (fun x=>[.cells 0 (Q4 x).cells]) .ret (fun x=>[.ptr 0 0 0,.bool x.2]) (fun x=>[.cells 0 (Q4 x.1).cells])
def ZZ(x1:Str)(x2:Q9)(x4:Qb)(x9:Int)(a3:Int):Option (Qb ⊕ (Qb×Bool)):=
 if a3<x9 then
 ix x2.fc a3>>=fun v0=>
 if v0.fa==x1 then
 ix x2.fc a3>>=fun v1=>
 Vi v1>>=fun v2=>
 some (.inr (v2,true))
 else
 ZZ x1 x2 x4 x9 (wr (a3+1))
 else
 some (.inl x4)
 partial_fixpoint
theorem Hh(x1 x2 x4 x9 a3 o)(h:ZZ x1 x2 x4 x9 a3=some o):LO 56 2 29 [1,2,4,9,10] [.str x1,.ptr 0 0 0,.ptr 1 0 0,ii x9,ii a3] [.cells 0 (Qj x2).cells,.cells 0 (Q4 x4).cells] [4,5] (Kq (x1,x2) x9 o):=
 ZZ.partial_correctness x1 x2 x4 x9 (fun a3 o=>LO 56 2 29 [1,2,4,9,10] [.str x1,.ptr 0 0 0,.ptr 1 0 0,ii x9,ii a3] [.cells 0 (Qj x2).cells,.cells 0 (Q4 x4).cells] [4,5] (Kq (x1,x2) x9 o))
 (fun ZZ Q80 a3 o h=>
 Lp2 (hs:=[(11,.split),(16,.e Q4),(20,.split),(24,.e Q4),(26,.c Q4)]) (kb:=[kk 2,kk 4]) (kbx:=[kk 4]) ((kIfD (p:=a3<x9) (kIx (enc:=Q4) (l:=x2.fc) (k:=a3) fun v0=>(kIf (c:=v0.fa==x1) (kIx (enc:=Q4) (l:=x2.fc) (k:=a3) fun v1=>(kC (sh:=Q4) (N4 v1) fun v2=>(kX (alts:=Kq (x1,x2) x9) (.inr (v2,true)) (.next (.here _ rfl (.refl _) (.refl _))))))
 (kM0 (alts:=Kq (x1,x2) x9) (Q80 (wr (a3+1))))))
 (kX (alts:=Kq (x1,x2) x9) (.inl x4) (.here _ rfl (.refl _) (.refl _)))) h)) a3 o h
def YP(x0:Q9)(x1:Str):Option (Qb×Bool):=
 some (List.length x0.fc:Int)>>=fun v0=>
 some v0>>=fun v1=>
 ZZ x1 x0 (Qb.mk [] (Qc.mk (0:Int) (0:Int) (0:Int) (0:Int) (0:Int)) [] (0:Int)) v0 (0:Int)>>=fun v2=>(match v2 with
 | (.inl v3)=>
 some ((Qb.mk [] (Qc.mk (0:Int) (0:Int) (0:Int) (0:Int) (0:Int)) [] (0:Int)))>>=fun v4=>
 some (v4,false)
 | (.inr v5)=>
 some (v5.fst,v5.snd))
theorem Us(x0 x1 r)(h:YP x0 x1=some r):PU 56 [Qj x0,eS x1] (QE r):=
 Pu2 (hs:=[(9,.n eI 9 none),(28,.n Q4 28 none),(3000003,.l [] [1,2,4,9,10] [kk 2,kk 4] [4,5] [kk 4] (Kq (x1,x0)))]) ((kN _ (mLen (sh:=Q4) x0.fc) fun v0=>(kL2 v0 (hL:=(fun y hy=>X7.le (.cons lr (.cons lr (.cons lr (.cons lr (.cons lr .nil))))) (.cons (LeB.refl (Box.cells (0:Nat) [AV.sl (8:Nat) (List.map Q4 x0.fc),AV.sl (20:Nat) (List.map Q6 x0.fb)])) (.cons (LeB.cells (0:Nat) (.cons lr (.cons lr (.cons lr (.cons lr (.cons lr (.cons lr (.cons (LeV.nil 1) (.cons lr .nil))))))))) .nil)) (Hh x1 x0 (Qb.mk [] (Qc.mk (0:Int) (0:Int) (0:Int) (0:Int) (0:Int)) [] (0:Int)) v0 (0:Int) y hy))) (hA:=fun v1 v3=>(kW (sh:=Q4) (Qb.mk [] (Qc.mk (0:Int) (0:Int) (0:Int) (0:Int) (0:Int)) [] (0:Int)) (LeV.agg (.cons lr (.cons lr (.cons lr (.cons lr (.cons lr (.cons lr (.cons (LeV.nil 1) (.cons lr .nil))))))))) fun v4=>(kEr (enc:=QE) (v4,false))))
 (hB:=fun v1 v5=>(kEr (enc:=QE) (v5.fst,v5.snd))))) h)
def Ks(s:((List Q0)×Int))(u:Int)(o:Unit ⊕ Bool):List Alt:=lp o (.exit 0) (fun _=>[.undef]) (fun _=>[]) .ret (fun x=>[.bool x]) (fun _=>[])
def V7(s:((List Q0)×Int×Int))(u:Int)(o:Bool):List Alt:=jb o (fun b=>[.sl 20 (List.map Q6 (s.1)),ii (s.2.1),ii (s.2.2),ii u,.bool b]) []
mutual
def YQ(x0:List Q0)(x1:Int):Option Bool:=
 some (List.length x0:Int)>>=fun v0=>
 some v0>>=fun v1=>
 X0 x0 x1 v0 0>>=fun v2=>(match v2 with
 | (.inl v3)=>
 some true
 | (.inr v4)=>
 some v4)
 partial_fixpoint
def X0(x0:List Q0)(x1:Int)(x7:Int)(x8:Int):Option (Unit ⊕ Bool):=
 if x8<x7 then
 some x8>>=fun v0=>
 (if x1<1 then
 some true
 else
 Option.map Q0.f (ix x0 x8)>>=fun v2=>
 YQ v2.fb (wr (x1 - (1:Int)))>>=fun v3=>if v3 then
 some false
 else
 some true)>>=fun v1=>if v1 then
 some (.inr false)
 else
 X0 x0 x1 x7 (wr (v0+1))
 else
 some (.inl ())
 partial_fixpoint
end
theorem Eg:(∀(x0:List Q0) (x1:Int) (r:Bool),YQ x0 x1=some r→PU 73 [Qn x0,eI x1] (eB r))∧(∀(x0:List Q0) (x1:Int) (x7:Int) (x8:Int) (o:Unit ⊕ Bool),X0 x0 x1 x7 x8=some o→LO 73 2 25 [0,1,7,8] [.sl 20 (List.map Q6 x0),ii x1,ii x7,ii x8] [] [4] (Ks (x0,x1) x7 o)):=
 YQ.mutual_partial_correctness _ _
 (fun X0 Q8i x0 x1 r h=>
 Pu2 (hs:=[(7,.n eI 7 none),(3000003,.l [] [0,1,7,8] [] [4] [] (Ks (x0,x1)))]) ((kN _ (mLen (sh:=Q6) x0) fun v0=>(kL2 v0 (hL:=(Q8i x0 x1 v0 0)) (hA:=fun v1 v3=>(kEr (enc:=eB) true))
 (hB:=fun v1 v4=>(kEr (enc:=eB) v4)))) h))
 (fun YQ X0 Q8h Q8i x0 x1 x7 x8 o h=>
 Lp2 (hs:=[(9,.split),(12,.split),(16,.e Qp),(21,.cb),(5000004,.l [] [] [] [0,1,7,8,23] [] (V7 (x0,x1,x7)))]) (kb:=[]) (kbx:=[]) ((kIfD (p:=x8<x7) (kJb (id:=5000004) x8 (fun v0 a6 v1=>(kIfD (p:=x1<1) (kXj (alts:=V7 (x0,x1,x7)) a6 true (.here () rfl (.refl _) (.refl _)))
 (kIxR (l:=x0) (k:=x8) Z7 fun v2=>(kCb (Q8h v2.fb (wr (x1 - (1:Int)))) (kXj (alts:=V7 (x0,x1,x7)) a6 false (.next (.here () rfl (.refl _) (.refl _))))
 (kXj (alts:=V7 (x0,x1,x7)) a6 true (.here () rfl (.refl _) (.refl _)))))))
 (fun v0=>(kX (alts:=Ks (x0,x1) x7) (.inr false) (.next (.here _ rfl (.refl _) (.refl _)))))
 (fun v0=>(kM0 (alts:=Ks (x0,x1) x7) (Q8i x0 x1 x7 (wr (v0+1))))))
 (kX (alts:=Ks (x0,x1) x7) (.inl ()) (.here _ rfl (.refl _) (.refl _)))) h))
theorem RQ(x0 x1 r)(h:YQ x0 x1=some r):PU 73 [Qn x0,eI x1] (eB r):=(Eg).1 x0 x1 r h
def Yj(s:((List Q0)×Int))(u:Int)(o:Int):List Alt:=l1 o (.exit 0) (fun x=>[ii x]) (fun _=>[])
mutual
def Xq(x0:List Q0)(x1:Int):Option Int:=
 some (List.length x0:Int)>>=fun v0=>
 some (v0:Int)>>=fun v1=>
 some (List.length x0:Int)>>=fun v2=>
 some v2>>=fun v3=>
 ZE x0 x1 v1 v2 0>>=fun v5=>
 some v5
 partial_fixpoint
def ZE(x0:List Q0)(x1:Int)(x5:Int)(a4:Int)(a3:Int):Option Int:=
 if a3<a4 then
 if x1<x5 then
 some x5
 else
 Option.map Q0.f (ix x0 a3)>>=fun v0=>
 Xq v0.fb (wr (x1 - x5))>>=fun v1=>
 some (wr (x5+v1):Int)>>=fun v2=>
 ZE x0 x1 v2 a4 (wr (a3+1))
 else
 some x5
 partial_fixpoint
end
theorem ID:(∀(x0:List Q0) (x1:Int) (r:Int),Xq x0 x1=some r→PU 74 [Qn x0,eI x1] (eI r))∧(∀(x0:List Q0) (x1:Int) (x5:Int) (a3:Int) (a6:Int) (o:Int),ZE x0 x1 x5 a3 a6=some o→LO 74 3 30 [0,1,5,10,11] [.sl 20 (List.map Q6 x0),ii x1,ii x5,ii a3,ii a6] [] [5] (Yj (x0,x1) a3 o)):=
 Xq.mutual_partial_correctness _ _
 (fun ZE Q8a x0 x1 r h=>
 Pu2 (hs:=[(8,.n eI 8 none),(10,.n eI 10 none),(5,.n eI 5 none),(3000004,.l [] [0,1,5,10,11] [] [5] [] (Yj (x0,x1)))]) ((kN _ (mLen (sh:=Q6) x0) fun v0=>(kN v0 rfl fun v1=>(kN _ (mLen (sh:=Q6) x0) fun v2=>(kL1 v2 (Q8a x0 x1 v1 v2 0) fun v3 v5=>(kEr (enc:=eI) v5))))) h))
 (fun Xq ZE Q89 Q8a x0 x1 x5 a3 a6 o h=>
 Lp2 (hs:=[(12,.split),(16,.split),(20,.e Qp),(26,.c eI),(5,.n eI 5 none)]) (kb:=[]) (kbx:=[]) ((kIfD (p:=a6<a3) (kIfD (p:=x1<x5) (kX (alts:=Yj (x0,x1) a3) x5 (.here _ rfl (.refl _) (.refl _)))
 (kIxR (l:=x0) (k:=a6) Z7 fun v0=>(kC (sh:=eI) (Q89 v0.fb (wr (x1 - x5))) fun v1=>(kN (wr (x5+v1)) rfl fun v2=>(kM0 (alts:=Yj (x0,x1) a3) (Q8a x0 x1 v2 a3 (wr (a6+1))))))))
 (kX (alts:=Yj (x0,x1) a3) x5 (.here _ rfl (.refl _) (.refl _)))) h))
theorem Hj(x0 x1 r)(h:Xq x0 x1=some r):PU 74 [Qn x0,eI x1] (eI r):=(ID).1 x0 x1 r h
def Df(x0:Int):Option Bool:=
 if 97≤x0 then
 some (decide (x0≤122))
 else
 some false
theorem IG(x0 r)(h:Df x0=some r):PU 154 [eI32 x0] (eB r):=
 Pu2 (hs:=[(4,.split)]) ((kIfD (p:=97≤x0) (kEr (enc:=eB) (decide (x0≤122)))
 (kEr (enc:=eB) false)) h)
def MK(x0:Int):Option Bool:=
 if 48≤x0 then
 some (decide (x0≤57))
 else
 some false
theorem FT(x0 r)(h:MK x0=some r):PU 191 [eI32 x0] (eB r):=
 Pu2 (hs:=[(4,.split)]) ((kIfD (p:=48≤x0) (kEr (enc:=eB) (decide (x0≤57)))
 (kEr (enc:=eB) false)) h)
def CE(x0:Int):Option Bool:=
 Df x0>>=fun v0=>if v0 then
 some true
 else
 MK x0>>=fun v1=>if v1 then
 some true
 else
 some (x0==95)
theorem AB(x0 r)(h:CE x0=some r):PU 156 [eI32 x0] (eB r):=
 Pu2 (hs:=[(4,.cb),(7,.cb)]) ((kCb (IG x0) (kEr (enc:=eB) true)
 (kCb (FT x0) (kEr (enc:=eB) true)
 (kEr (enc:=eB) (x0==95)))) h)
def Vr(s:Str)(u:Unit)(o:Int):List Alt:=l1 o (.exit 0) (fun x=>[ii x]) (fun _=>[])
def V2(s:Str)(u:Int)(o:Bool):List Alt:=jb o (fun b=>[.str s,.fn 156 [],ii u,.bool b]) []
def ZY(x0:Str)(x5:Int):Option Int:=
 some x5>>=fun v0=>
 (if x5< (↑(List.length x0):Int) then
 ix x0 x5>>=fun v2=>
 CE (IntKind.i32.wrap (↑v2.toNat:Int))>>=fun v3=>if v3 then
 some true
 else
 some false
 else
 some false)>>=fun v1=>if v1 then
 ZY x0 (wr (v0+1))
 else
 some v0
 partial_fixpoint
theorem Hg(x0 x5 o)(h:ZY x0 x5=some o):LO 155 2 21 [0,1,5] [.str x0,.fn 156 [],ii x5] [] [5] (Vr x0 () o):=
 ZY.partial_correctness x0 (fun x5 o=>LO 155 2 21 [0,1,5] [.str x0,.fn 156 [],ii x5] [] [5] (Vr x0 () o))
 (fun ZY Q7x x5 o h=>
 Lp2 (hs:=[(9,.split),(14,.u),(16,.cb),(5000002,.l [] [] [] [0,1,5,17] [] (V2 x0))]) (kb:=[]) (kbx:=[]) ((kJb (id:=5000002) x5 (fun v0 a4 v1=>(kIfD (p:=x5< (↑(List.length x0):Int)) (kU (s:=x0) (k:=x5) fun v2=>(kCb (AB (IntKind.i32.wrap (↑v2.toNat:Int))) (kXj (alts:=V2 x0) a4 true (.here () rfl (.refl _) (.refl _)))
 (kXj (alts:=V2 x0) a4 false (.next (.here () rfl (.refl _) (.refl _))))))
 (kXj (alts:=V2 x0) a4 false (.next (.here () rfl (.refl _) (.refl _))))))
 (fun v0=>(kM0 (alts:=Vr x0 ()) (Q7x (wr (v0+1)))))
 (fun v0=>(kX (alts:=Vr x0 ()) v0 (.here _ rfl (.refl _) (.refl _))))) h)) x5 o h
def D5(x0:Str):Option Int:=
 some ()>>=fun v0=>
 ZY x0 0>>=fun v2=>
 some v2
theorem RM(x0 r)(h:D5 x0=some r):PU 155 [eS x0,.fn 156 []] (eI r):=
 Pu2 (hs:=[(3000003,.l [] [0,1,5] [] [5] [] (Vr x0))]) ((kL1 () (Hg x0 0) fun v0 v2=>(kEr (enc:=eI) v2)) h)
def Y4(s:((List Str)×Str))(u:Int)(o:Unit ⊕ Int):List Alt:=lp o (.exit 0) (fun _=>[.undef]) (fun _=>[]) .ret (fun x=>[ii x]) (fun _=>[])
def Zw(x0:List Str)(x1:Str)(x7:Int)(x8:Int):Option (Unit ⊕ Int):=
 if x8<x7 then
 ix x0 x8>>=fun v0=>
 if x1==v0 then
 some (.inr x8)
 else
 Zw x0 x1 x7 (wr (x8+1))
 else
 some (.inl ())
 partial_fixpoint
theorem LA(x0 x1 x7 x8 o)(h:Zw x0 x1 x7 x8=some o):LO 141 2 19 [0,1,7,8] [.sl 1 (List.map eS x0),.str x1,ii x7,ii x8] [] [4] (Y4 (x0,x1) x7 o):=
 Zw.partial_correctness x0 x1 x7 (fun x8 o=>LO 141 2 19 [0,1,7,8] [.sl 1 (List.map eS x0),.str x1,ii x7,ii x8] [] [4] (Y4 (x0,x1) x7 o))
 (fun Zw Qad x8 o h=>
 Lp2 (hs:=[(9,.split),(14,.e eS),(16,.split)]) (kb:=[]) (kbx:=[]) ((kIfD (p:=x8<x7) (kIx (enc:=eS) (l:=x0) (k:=x8) fun v0=>(kIf (c:=x1==v0) (kX (alts:=Y4 (x0,x1) x7) (.inr x8) (.next (.here _ rfl (.refl _) (.refl _))))
 (kM0 (alts:=Y4 (x0,x1) x7) (Qad (wr (x8+1))))))
 (kX (alts:=Y4 (x0,x1) x7) (.inl ()) (.here _ rfl (.refl _) (.refl _)))) h)) x8 o h
def Dg(x0:List Str)(x1:Str):Option Int:=
 some (List.length x0:Int)>>=fun v0=>
 some v0>>=fun v1=>
 Zw x0 x1 v0 0>>=fun v2=>(match v2 with
 | (.inl v3)=>
 some (-1:Int)
 | (.inr v4)=>
 some v4)
theorem IH(x0 x1 r)(h:Dg x0 x1=some r):PU 141 [eLS x0,eS x1] (eI r):=
 Pu2 (hs:=[(7,.n eI 7 none),(3000003,.l [] [0,1,7,8] [] [4] [] (Y4 (x0,x1)))]) ((kN _ (mLen (sh:=eS) x0) fun v0=>(kL2 v0 (hL:=(LA x0 x1 v0 0)) (hA:=fun v1 v3=>(kEr (enc:=eI) (-1:Int)))
 (hB:=fun v1 v4=>(kEr (enc:=eI) v4)))) h)
def ZN(x0:List Str)(x1:Str):Option Bool:=
 Dg x0 x1>>=fun v0=>
 some (decide (0≤v0))
theorem Kj(x0 x1 r)(h:ZN x0 x1=some r):PU 99 [eLS x0,eS x1] (eB r):=
 Pu2 (hs:=[(7,.c eI)]) ((kC (sh:=eI) (IH x0 x1) fun v0=>(kEr (enc:=eB) (decide (0≤v0)))) h)
def W6(x0:Str):Option Bool:=
 WS>>=fun v0=>
 ZN v0 x0>>=fun v1=>
 some v1
theorem RL(x0 r)(h:W6 x0=some r):PU 157 [eS x0] (eB r):=
 Pu2 (hs:=[(3,.c eLS),(5,.c eB)]) ((kC (sh:=eLS) (Tp) fun v0=>(kC (sh:=eB) (Kj v0 x0) fun v1=>(kEr (enc:=eB) v1))) h)
def Jf(x0:Str):Option Bool:=
 if !x0==[] then
 if(↑(List.length x0):Int)≤16 then
 ix x0 (0:Int)>>=fun v0=>
 Df (IntKind.i32.wrap (↑v0.toNat:Int))>>=fun v1=>if v1 then
 D5 x0>>=fun v2=>
 if v2==(↑(List.length x0):Int) then
 W6 x0>>=fun v3=>
 some (!v3)
 else
 some false
 else
 some false
 else
 some false
 else
 some false
theorem CJ(x0 r)(h:Jf x0=some r):PU 115 [eS x0] (eB r):=
 Pu2 (hs:=[(4,.split),(8,.split),(12,.u),(14,.cb),(18,.c eI),(21,.split),(25,.c eB)]) ((kIf (c:= !x0==[]) (kIfD (p:=(↑(List.length x0):Int)≤16) (kU (s:=x0) (k:=(0:Int)) fun v0=>(kCb (IG (IntKind.i32.wrap (↑v0.toNat:Int))) (kC (sh:=eI) (RM x0) fun v2=>(kIf (c:=v2==(↑(List.length x0):Int)) (kC (sh:=eB) (RL x0) fun v3=>(kEr (enc:=eB) (!v3)))
 (kEr (enc:=eB) false)))
 (kEr (enc:=eB) false)))
 (kEr (enc:=eB) false))
 (kEr (enc:=eB) false)) h)
def UC(x0:Qb)(x1:Qb):Option Bool:=
 some (x0.fa==x1.fa)
theorem MZ(x0 x1 r)(h:UC x0 x1=some r):PU 117 [Q4 x0,.ip 8 [.agg [.str x1.fa,ii x1.fd.fk,ii x1.fd.fm,ii x1.fd.fv,ii x1.fd.fo,ii x1.fd.fw,.sl 1 (List.map eI x1.fC),ii x1.fF]] 0 0] (eB r):=
 Pu2 (hs:=[]) ((kEr (enc:=eB) (x0.fa==x1.fa)) h)
def Zi(s:((List Qb)×Qb))(u:Int)(o:Unit ⊕ Int):List Alt:=lp o (.exit 0) (fun _=>[.undef]) (fun _=>[]) .ret (fun x=>[ii x]) (fun _=>[])
def QR(x0:List Qb)(x1:Qb)(x7:Int)(x8:Int):Option (Unit ⊕ Int):=
 if x8<x7 then
 ix x0 x8>>=fun v0=>
 UC v0 x1>>=fun v1=>if v1 then
 some (.inr x8)
 else
 QR x0 x1 x7 (wr (x8+1))
 else
 some (.inl ())
 partial_fixpoint
theorem Cd(x0 x1 x7 x8 o)(h:QR x0 x1 x7 x8=some o):LO 77 2 19 [0,1,7,8] [.sl 8 (List.map Q4 x0),.fn 117 [.ip 8 [.agg [.str x1.fa,ii x1.fd.fk,ii x1.fd.fm,ii x1.fd.fv,ii x1.fd.fo,ii x1.fd.fw,.sl 1 (List.map eI x1.fC),ii x1.fF]] 0 0],ii x7,ii x8] [] [4] (Zi (x0,x1) x7 o):=
 QR.partial_correctness x0 x1 x7 (fun x8 o=>LO 77 2 19 [0,1,7,8] [.sl 8 (List.map Q4 x0),.fn 117 [.ip 8 [.agg [.str x1.fa,ii x1.fd.fk,ii x1.fd.fm,ii x1.fd.fv,ii x1.fd.fo,ii x1.fd.fw,.sl 1 (List.map eI x1.fC),ii x1.fF]] 0 0],ii x7,ii x8] [] [4] (Zi (x0,x1) x7 o))
 (fun QR Qa6 x8 o h=>
 Lp2 (hs:=[(9,.split),(14,.e Q4),(16,.cb)]) (kb:=[]) (kbx:=[]) ((kIfD (p:=x8<x7) (kIx (enc:=Q4) (l:=x0) (k:=x8) fun v0=>(kCb (MZ v0 x1) (kX (alts:=Zi (x0,x1) x7) (.inr x8) (.next (.here _ rfl (.refl _) (.refl _))))
 (kM0 (alts:=Zi (x0,x1) x7) (Qa6 (wr (x8+1))))))
 (kX (alts:=Zi (x0,x1) x7) (.inl ()) (.here _ rfl (.refl _) (.refl _)))) h)) x8 o h
def KJ(x0:List Qb)(x1:Qb):Option Int:=
 some (List.length x0:Int)>>=fun v0=>
 some v0>>=fun v1=>
 QR x0 x1 v0 0>>=fun v2=>(match v2 with
 | (.inl v3)=>
 some (-1:Int)
 | (.inr v4)=>
 some v4)
theorem Wa(x0 x1 r)(h:KJ x0 x1=some r):PU 77 [JX x0,.fn 117 [.ip 8 [.agg [.str x1.fa,ii x1.fd.fk,ii x1.fd.fm,ii x1.fd.fv,ii x1.fd.fo,ii x1.fd.fw,.sl 1 (List.map eI x1.fC),ii x1.fF]] 0 0]] (eI r):=
 Pu2 (hs:=[(7,.n eI 7 none),(3000003,.l [] [0,1,7,8] [] [4] [] (Zi (x0,x1)))]) ((kN _ (mLen (sh:=Q4) x0) fun v0=>(kL2 v0 (hL:=(Cd x0 x1 v0 0)) (hA:=fun v1 v3=>(kEr (enc:=eI) (-1:Int)))
 (hB:=fun v1 v4=>(kEr (enc:=eI) v4)))) h)
def Xj(x0:List Qb)(x1:Qb):Option Bool:=
 KJ x0 x1>>=fun v0=>
 some (decide (0≤v0))
theorem Cc(x0 x1 r)(h:Xj x0 x1=some r):PU 116 [JX x0,.fn 117 [.ip 8 [.agg [.str x1.fa,ii x1.fd.fk,ii x1.fd.fm,ii x1.fd.fv,ii x1.fd.fo,ii x1.fd.fw,.sl 1 (List.map eI x1.fC),ii x1.fF]] 0 0]] (eB r):=
 Pu2 (hs:=[(7,.c eI)]) ((kC (sh:=eI) (Wa x0 x1) fun v0=>(kEr (enc:=eB) (decide (0≤v0)))) h)
def MM(x0:Qc):Option Bool:=
 some ((Qc.mk x0.fk (0:Int) (0:Int) (0:Int) (0:Int)))>>=fun v0=>
 some (x0.fk==v0.fk&& (x0.fm==v0.fm&& (x0.fv==v0.fv&& (x0.fo==v0.fo&& (x0.fw==v0.fw&&true)))))
theorem Pb(x0 r)(h:MM x0=some r):PU 158 [Qf x0] (eB r):=
 Pu2 (hs:=[(6,.n Qf 6 none)]) ((kW (sh:=Qf) (Qc.mk x0.fk (0:Int) (0:Int) (0:Int) (0:Int)) lr fun v0=>(kEr (enc:=eB) (x0.fk==v0.fk&& (x0.fm==v0.fm&& (x0.fv==v0.fv&& (x0.fo==v0.fo&& (x0.fw==v0.fw&&true))))))) h)
def XL(s:Qc)(u:Unit)(o:Bool):List Alt:=l1 o .normal (fun x=>[.ptr 0 0 0,.bool x]) (fun _=>[.cells 0 (Qf s).cells])
def Zd(s:Unit)(u:Unit)(o:Bool):List Alt:=jb o (fun b=>[.bool b]) []
def Kx(x0:Qc):Option Int:=
 some ()>>=fun v0=>
 (if 1≤x0.fo then
 if x0.fo≤4 then
 if x0.fw==1 then
 some true
 else
 some (x0.fw==2)
 else
 some false
 else
 some false)>>=fun v2=>
 some ()>>=fun v3=>
 (if x0.fk !=2 then
 some true
 else
 if x0.fm<2 then
 some true
 else
 if 31<x0.fm then
 some true
 else
 if x0.fv<0 then
 some true
 else
 if 30<x0.fv then
 some true
 else
 if v2 then
 some false
 else
 some true)>>=fun v4=>if v4 then
 some (10:Int)
 else
 some (0:Int)
theorem Ns(x0 r)(h:Kx x0=some r):PU 159 [Qf x0] (eI r):=
 Pu2 (hs:=[(6,.split),(10,.split),(15,.split),(24,.split),(28,.split),(33,.split),(38,.split),(43,.split),(46,.split),(5000001,.l [] [] [] [1,3] [kk 1] (XL x0)),(5000002,.l [] [] [] [48] [] (Zd ()))]) ((kJ1 (id:=5000001) () (fun v0 a4 v1=>(kIfD (p:=1≤x0.fo) (kIfD (p:=x0.fo≤4) (kIf (c:=x0.fw==1) (kXj (alts:=XL x0) a4 true (.here _ rfl (.refl _) (.refl _)))
 (kXj (alts:=XL x0) a4 (x0.fw==2) (.here _ rfl (.refl _) (.refl _))))
 (kXj (alts:=XL x0) a4 false (.here _ rfl (.refl _) (.refl _))))
 (kXj (alts:=XL x0) a4 false (.here _ rfl (.refl _) (.refl _)))))
 (fun v0 v2=>(kJb (id:=5000002) () (fun v3 a3 v4=>(kIf (c:=x0.fk !=2) (kXj (alts:=Zd ()) a3 true (.here () rfl (.refl _) (.refl _)))
 (kIfD (p:=x0.fm<2) (kXj (alts:=Zd ()) a3 true (.here () rfl (.refl _) (.refl _)))
 (kIfD (p:=31<x0.fm) (kXj (alts:=Zd ()) a3 true (.here () rfl (.refl _) (.refl _)))
 (kIfD (p:=x0.fv<0) (kXj (alts:=Zd ()) a3 true (.here () rfl (.refl _) (.refl _)))
 (kIfD (p:=30<x0.fv) (kXj (alts:=Zd ()) a3 true (.here () rfl (.refl _) (.refl _)))
 (kIf (c:=v2) (kXj (alts:=Zd ()) a3 false (.next (.here () rfl (.refl _) (.refl _))))
 (kXj (alts:=Zd ()) a3 true (.here () rfl (.refl _) (.refl _))))))))))
 (fun v3=>(kEr (enc:=eI) (10:Int)))
 (fun v3=>(kEr (enc:=eI) (0:Int)))))) h)
def Kc(s:Qc)(u:Int)(o:Bool):List Alt:=jb o (fun b=>[.ptr 0 0 0,ii u,.bool b]) [.cells 0 (Qf s).cells]
def YA(x0:Qc):Option Int:=
 some x0.fk>>=fun v0=>
 (if x0.fk==1 then
 some true
 else
 if x0.fk==3 then
 some true
 else
 some false)>>=fun v1=>if v1 then
 MM x0>>=fun v3=>if v3 then
 some (0:Int)
 else
 some (10:Int)
 else
 if v0==2 then
 Kx x0>>=fun v5=>
 if v5==0 then
 some (0:Int)
 else
 some (10:Int)
 else
 some (10:Int)
theorem UF(x0 r)(h:YA x0=some r):PU 118 [Qf x0] (eI r):=
 Pu2 (hs:=[(5,.split),(5,.split),(9,.cb),(11,.split),(13,.c eI),(14,.split),(6000004,.l [] [] [] [1,4,5] [kk 1] (Kc x0))]) ((kJb (id:=6000004) x0.fk (fun v0 a3 v1=>(kIf (c:=x0.fk==1) (kXj (alts:=Kc x0) a3 true (.here () rfl (.refl _) (.refl _)))
 (kIf (c:=x0.fk==3) (kXj (alts:=Kc x0) a3 true (.here () rfl (.refl _) (.refl _)))
 (kXj (alts:=Kc x0) a3 false (.next (.here () rfl (.refl _) (.refl _)))))))
 (fun v0=>(kCb (Pb x0) (kEr (enc:=eI) (0:Int))
 (kEr (enc:=eI) (10:Int))))
 (fun v0=>(kIf (c:=v0==2) (kC (sh:=eI) (Ns x0) fun v5=>(kIf (c:=v5==0) (kEr (enc:=eI) (0:Int))
 (kEr (enc:=eI) (10:Int))))
 (kEr (enc:=eI) (10:Int))))) h)
def Ku(s:Unit)(u:((List Int)×Int))(o:Unit ⊕ Int):List Alt:=lp o (.exit 2) (fun _=>[.undef]) (fun _=>[]) .ret (fun x=>[ii x]) (fun _=>[])
def X2(x5:Int)(a4:List Int)(a5:Int)(a3:Int):Option (Unit ⊕ Int):=
 if a3<a5 then
 ix a4 a3>>=fun v0=>
 if x5≠0 then
 if wr (Int.tdiv (4096:Int) x5)<v0 then
 some (.inr (2:Int))
 else
 some (wr (x5*v0):Int)>>=fun v1=>
 X2 v1 a4 a5 (wr (a3+1))
 else none
 else
 some (.inl ())
 partial_fixpoint
theorem Hm(x5 x20 x21 a3 o)(h:X2 x5 x20 x21 a3=some o):LO 119 11 34 [5,20,21,22] [ii x5,.sl 1 (List.map eI x20),ii x21,ii a3] [] [2] (Ku () (x20,x21) o):=
 X2.partial_correctness x20 x21 (fun x5 a3 o=>LO 119 11 34 [5,20,21,22] [ii x5,.sl 1 (List.map eI x20),ii x21,ii a3] [] [2] (Ku () (x20,x21) o))
 (fun X2 Q9z x5 a3 o h=>
 Lp2 (hs:=[(23,.split),(24,.e eI),(28,.s),(29,.split),(5,.n eI 5 none)]) (kb:=[]) (kbx:=[]) ((kIfD (p:=a3<x21) (kIx (enc:=eI) (l:=x20) (k:=a3) fun v0=>(kG (p:=x5≠0) (kIfD (p:=wr (Int.tdiv (4096:Int) x5)<v0) (kX (alts:=Ku () (x20,x21)) (.inr (2:Int)) (.next (.here _ rfl (.refl _) (.refl _))))
 (kN (wr (x5*v0)) rfl fun v1=>(kM0 (alts:=Ku () (x20,x21)) (Q9z v1 (wr (a3+1))))))))
 (kX (alts:=Ku () (x20,x21)) (.inl ()) (.here _ rfl (.refl _) (.refl _)))) h)) x5 a3 o h
def KO(s:List Int)(u:((List Int)×Int))(o:Unit ⊕ Int):List Alt:=lp o (.exit 0) (fun _=>[.sl 1 (List.map eI s),.undef]) (fun _=>[]) .ret (fun x=>[.sl 1 (List.map eI s),ii x]) (fun _=>[])
def Xe(a4:List Int)(a5:Int)(a3:Int):Option (Unit ⊕ Int):=
 if a3<a5 then
 ix a4 a3>>=fun v0=>
 if v0<1 then
 some (.inr (1:Int))
 else
 Xe a4 a5 (wr (a3+1))
 else
 some (.inl ())
 partial_fixpoint
theorem Ec(x0:List Int)(a3:List Int)(a4:Int)(a5:Int)(o:Unit ⊕ Int)(h:Xe a3 a4 a5=some o):LO 119 4 34 [0,11,12,13] [.sl 1 (List.map eI x0),.sl 1 (List.map eI a3),ii a4,ii a5] [] [0,2] (KO x0 (a3,a4) o):=
 Xe.partial_correctness a3 a4 (fun a5 o=>∀(x0:List Int),LO 119 4 34 [0,11,12,13] [.sl 1 (List.map eI x0),.sl 1 (List.map eI a3),ii a4,ii a5] [] [0,2] (KO x0 (a3,a4) o))
 (fun Xe Qa0 a5 o h x0=>
 Lp2 (hs:=[(14,.split),(15,.e eI),(18,.split)]) (kb:=[]) (kbx:=[]) ((kIfD (p:=a5<a4) (kIx (enc:=eI) (l:=a3) (k:=a5) fun v0=>(kIfD (p:=v0<1) (kX (alts:=KO x0 (a3,a4)) (.inr (1:Int)) (.next (.here _ rfl (.refl _) (.refl _))))
 (kM0 (alts:=KO x0 (a3,a4)) (fun y hy=>Qa0 (wr (a5+1)) y hy x0))))
 (kX (alts:=KO x0 (a3,a4)) (.inl ()) (.here _ rfl (.refl _) (.refl _)))) h)) a5 o h x0
def Dy(x0:List Int):Option Int:=
 some (List.length x0:Int)>>=fun v0=>
 if 6<v0 then
 some (2:Int)
 else
 some (List.length x0:Int)>>=fun v1=>
 some (x0,v1)>>=fun v2=>
 Xe x0 v1 0>>=fun v3=>(match v3 with
 | (.inl v4)=>
 some ((1:Int):Int)>>=fun v5=>
 some (List.length x0:Int)>>=fun v6=>
 some (x0,v6)>>=fun v7=>
 X2 v5 x0 v6 0>>=fun v8=>(match v8 with
 | (.inl v9)=>
 some (0:Int)
 | (.inr v10)=>
 some v10)
 | (.inr v11)=>
 some v11)
theorem TD(x0 r)(h:Dy x0=some r):PU 119 [eLI x0] (eI r):=
 Pu2 (hs:=[(9,.n eI 9 none),(10,.split),(12,.n eI 12 none),(21,.n eI 21 none),(5,.n eI 5 none),(3000012,.l [] [5,20,21,22] [] [2] [] (Ku ())),(3000005,.l [] [0,11,12,13] [] [0,2] [] (KO x0))]) ((kN _ (mLen (sh:=eI) x0) fun v0=>(kIfD (p:=6<v0) (kEr (enc:=eI) (2:Int))
 (kN _ (mLen (sh:=eI) x0) fun v1=>(kL2 (x0,v1) (hL:=(Ec x0 x0 v1 0)) (hA:=fun v2 v4=>(kN (1:Int) rfl fun v5=>(kN _ (mLen (sh:=eI) x0) fun v6=>(kL2 (x0,v6) (hL:=(Hm v5 x0 v6 0)) (hA:=fun v7 v9=>(kEr (enc:=eI) (0:Int)))
 (hB:=fun v7 a3=>(kEr (enc:=eI) a3))))))
 (hB:=fun v2 a4=>(kEr (enc:=eI) a4)))))) h)
def Z3(s:List Qb)(u:Int)(o:Unit ⊕ Int):List Alt:=lp o (.exit 0) (fun _=>[.undef]) (fun _=>[]) .ret (fun x=>[ii x]) (fun _=>[])
def Ym(s:((List Qb)×Int))(u:Int)(o:Bool):List Alt:=jb o (fun b=>[.sl 8 (List.map Q4 (s.1)),ii (s.2),ii u,.bool b]) []
def Ze(x0:List Qb)(x7:Int)(x8:Int):Option (Unit ⊕ Int):=
 if x8<x7 then
 ix x0 x8>>=fun v0=>
 Jf v0.fa>>=fun v1=>if v1 then
 if(0:Int)≤0∧0≤x8∧x8≤(↑(List.map Q4 x0).length:Int) then
 some ((List.drop (0:Nat) (List.take x8.toNat x0)):List Qb)>>=fun v2=>
 Xj v2 v0>>=fun v3=>if v3 then
 some (.inr (8:Int))
 else
 YA v0.fd>>=fun v4=>
 if v4 !=0 then
 some (.inr (10:Int))
 else
 Dy v0.fC>>=fun v5=>
 if v5 !=0 then
 some (.inr v5)
 else
 some x8>>=fun v6=>
 (if v0.fF<1 then
 some true
 else
 if 3<v0.fF then
 some true
 else
 some false)>>=fun v7=>if v7 then
 some (.inr (1:Int))
 else
 Ze x0 x7 (wr (v6+1))
 else none
 else
 some (.inr (7:Int))
 else
 some (.inl ())
 partial_fixpoint
theorem MQ(x0 x7 x8 o)(h:Ze x0 x7 x8=some o):LO 75 2 46 [0,7,8] [.sl 8 (List.map Q4 x0),ii x7,ii x8] [] [2] (Z3 x0 x7 o):=
 Ze.partial_correctness x0 x7 (fun x8 o=>LO 75 2 46 [0,7,8] [.sl 8 (List.map Q4 x0),ii x7,ii x8] [] [2] (Z3 x0 x7 o))
 (fun Ze Q82 x8 o h=>
 Lp2 (hs:=[(9,.split),(13,.e Q4),(18,.cb),(23,.n JX 23 (some .s)),(24,.z [{slot:=4,fz:=true}] none),(25,.cb),(29,.c eI),(30,.split),(33,.c eI),(35,.split),(39,.split),(43,.split),(5000014,.l [] [] [] [0,7,8,44] [] (Ym (x0,x7)))]) (kb:=[]) (kbx:=[]) ((kIfD (p:=x8<x7) (kIx (enc:=Q4) (l:=x0) (k:=x8) fun v0=>(kCb (CJ v0.fa) (kG (p:=(0:Int)≤0∧0≤x8∧x8≤(↑(List.map Q4 x0).length:Int)) (kW (sh:=JX) (List.drop (0:Nat) (List.take x8.toNat x0)) (leSl (mTD (sh:=Q4) x0 x8.toNat (0:Nat))) fun v2=>(kCb (Cc v2 v0) (kX (alts:=Z3 x0 x7) (.inr (8:Int)) (.next (.here _ rfl (.refl _) (.refl _))))
 (kC (sh:=eI) (UF v0.fd) fun v4=>(kIf (c:=v4 !=0) (kX (alts:=Z3 x0 x7) (.inr (10:Int)) (.next (.here _ rfl (.refl _) (.refl _))))
 (kC (sh:=eI) (TD v0.fC) fun v5=>(kIf (c:=v5 !=0) (kX (alts:=Z3 x0 x7) (.inr v5) (.next (.here _ rfl (.refl _) (.refl _))))
 (kJb (id:=5000014) x8 (fun v6 a4 v7=>(kIfD (p:=v0.fF<1) (kXj (alts:=Ym (x0,x7)) a4 true (.here () rfl (.refl _) (.refl _)))
 (kIfD (p:=3<v0.fF) (kXj (alts:=Ym (x0,x7)) a4 true (.here () rfl (.refl _) (.refl _)))
 (kXj (alts:=Ym (x0,x7)) a4 false (.next (.here () rfl (.refl _) (.refl _)))))))
 (fun v6=>(kX (alts:=Z3 x0 x7) (.inr (1:Int)) (.next (.here _ rfl (.refl _) (.refl _)))))
 (fun v6=>(kM0 (alts:=Z3 x0 x7) (Q82 (wr (v6+1)))))))))))))
 (kX (alts:=Z3 x0 x7) (.inr (7:Int)) (.next (.here _ rfl (.refl _) (.refl _))))))
 (kX (alts:=Z3 x0 x7) (.inl ()) (.here _ rfl (.refl _) (.refl _)))) h)) x8 o h
def VT(x0:List Qb):Option Int:=
 some (List.length x0:Int)>>=fun v0=>
 some v0>>=fun v1=>
 Ze x0 v0 0>>=fun v2=>(match v2 with
 | (.inl v3)=>
 some (0:Int)
 | (.inr v4)=>
 some v4)
theorem LX(x0 r)(h:VT x0=some r):PU 75 [JX x0] (eI r):=
 Pu2 (hs:=[(7,.n eI 7 none),(3000003,.l [] [0,7,8] [] [2] [] (Z3 x0))]) ((kN _ (mLen (sh:=Q4) x0) fun v0=>(kL2 v0 (hL:=(MQ x0 v0 0)) (hA:=fun v1 v3=>(kEr (enc:=eI) (0:Int)))
 (hB:=fun v1 v4=>(kEr (enc:=eI) v4)))) h)
def Ql(s:Unit)(u:Unit)(o:Bool):List Alt:=jb o (fun b=>[.bool b]) []
def CG(x0:Str):Option Bool:=
 some ()>>=fun v0=>
 (if x0==[(115:UInt8),(105:UInt8),(122:UInt8),(101:UInt8)] then
 some true
 else
 if x0==[(119:UInt8),(104:UInt8),(101:UInt8),(114:UInt8),(101:UInt8)] then
 some true
 else
 if x0==[(105:UInt8),(110:UInt8)] then
 some true
 else
 if x0==[(100:UInt8),(101:UInt8),(102:UInt8)] then
 some true
 else
 if x0==[(111:UInt8),(117:UInt8),(116:UInt8)] then
 some true
 else
 if x0==[(115:UInt8),(117:UInt8),(109:UInt8)] then
 some true
 else
 if x0==[(112:UInt8),(114:UInt8),(111:UInt8),(100:UInt8)] then
 some true
 else
 if x0==[(109:UInt8),(105:UInt8),(110:UInt8)] then
 some true
 else
 if x0==[(109:UInt8),(97:UInt8),(120:UInt8)] then
 some true
 else
 if x0==[(115:UInt8),(99:UInt8),(97:UInt8),(110:UInt8)] then
 some true
 else
 if x0==[(111:UInt8),(118:UInt8),(101:UInt8),(114:UInt8)] then
 some true
 else
 if x0==[(105:UInt8),(102:UInt8)] then
 some true
 else
 if x0==[(99:UInt8),(97:UInt8),(115:UInt8),(116:UInt8)] then
 some true
 else
 if x0==[(102:UInt8),(114:UInt8),(97:UInt8),(99:UInt8)] then
 some true
 else
 if x0==[(105:UInt8),(110:UInt8),(116:UInt8)] then
 some true
 else
 if x0==[(102:UInt8),(105:UInt8),(120:UInt8)] then
 some true
 else
 if x0==[(99:UInt8),(101:UInt8),(105:UInt8),(108:UInt8)] then
 some true
 else
 if x0==[(102:UInt8),(108:UInt8),(111:UInt8),(111:UInt8),(114:UInt8)] then
 some true
 else
 if x0==[(122:UInt8),(101:UInt8),(114:UInt8),(111:UInt8)] then
 some true
 else
 if x0==[(101:UInt8),(118:UInt8),(101:UInt8),(110:UInt8)] then
 some true
 else
 if x0==[(115:UInt8),(97:UInt8),(116:UInt8)] then
 some true
 else
 if x0==[(119:UInt8),(114:UInt8),(97:UInt8),(112:UInt8)] then
 some true
 else
 some false)>>=fun v1=>if v1 then
 some true
 else
 some false
theorem AD(x0 r)(h:CG x0=some r):PU 186 [eS x0] (eB r):=
 Pu2 (hs:=[(4,.split),(4,.split),(4,.split),(4,.split),(4,.split),(4,.split),(4,.split),(4,.split),(4,.split),(4,.split),(4,.split),(4,.split),(4,.split),(4,.split),(4,.split),(4,.split),(4,.split),(4,.split),(4,.split),(4,.split),(4,.split),(4,.split),(6000004,.l [] [] [] [4] [] (Ql ()))]) ((kJb (id:=6000004) () (fun v0 a3 v1=>(kIf (c:=x0==[(115:UInt8),(105:UInt8),(122:UInt8),(101:UInt8)]) (kXj (alts:=Ql ()) a3 true (.here () rfl (.refl _) (.refl _)))
 (kIf (c:=x0==[(119:UInt8),(104:UInt8),(101:UInt8),(114:UInt8),(101:UInt8)]) (kXj (alts:=Ql ()) a3 true (.here () rfl (.refl _) (.refl _)))
 (kIf (c:=x0==[(105:UInt8),(110:UInt8)]) (kXj (alts:=Ql ()) a3 true (.here () rfl (.refl _) (.refl _)))
 (kIf (c:=x0==[(100:UInt8),(101:UInt8),(102:UInt8)]) (kXj (alts:=Ql ()) a3 true (.here () rfl (.refl _) (.refl _)))
 (kIf (c:=x0==[(111:UInt8),(117:UInt8),(116:UInt8)]) (kXj (alts:=Ql ()) a3 true (.here () rfl (.refl _) (.refl _)))
 (kIf (c:=x0==[(115:UInt8),(117:UInt8),(109:UInt8)]) (kXj (alts:=Ql ()) a3 true (.here () rfl (.refl _) (.refl _)))
 (kIf (c:=x0==[(112:UInt8),(114:UInt8),(111:UInt8),(100:UInt8)]) (kXj (alts:=Ql ()) a3 true (.here () rfl (.refl _) (.refl _)))
 (kIf (c:=x0==[(109:UInt8),(105:UInt8),(110:UInt8)]) (kXj (alts:=Ql ()) a3 true (.here () rfl (.refl _) (.refl _)))
 (kIf (c:=x0==[(109:UInt8),(97:UInt8),(120:UInt8)]) (kXj (alts:=Ql ()) a3 true (.here () rfl (.refl _) (.refl _)))
 (kIf (c:=x0==[(115:UInt8),(99:UInt8),(97:UInt8),(110:UInt8)]) (kXj (alts:=Ql ()) a3 true (.here () rfl (.refl _) (.refl _)))
 (kIf (c:=x0==[(111:UInt8),(118:UInt8),(101:UInt8),(114:UInt8)]) (kXj (alts:=Ql ()) a3 true (.here () rfl (.refl _) (.refl _)))
 (kIf (c:=x0==[(105:UInt8),(102:UInt8)]) (kXj (alts:=Ql ()) a3 true (.here () rfl (.refl _) (.refl _)))
 (kIf (c:=x0==[(99:UInt8),(97:UInt8),(115:UInt8),(116:UInt8)]) (kXj (alts:=Ql ()) a3 true (.here () rfl (.refl _) (.refl _)))
 (kIf (c:=x0==[(102:UInt8),(114:UInt8),(97:UInt8),(99:UInt8)]) (kXj (alts:=Ql ()) a3 true (.here () rfl (.refl _) (.refl _)))
 (kIf (c:=x0==[(105:UInt8),(110:UInt8),(116:UInt8)]) (kXj (alts:=Ql ()) a3 true (.here () rfl (.refl _) (.refl _)))
 (kIf (c:=x0==[(102:UInt8),(105:UInt8),(120:UInt8)]) (kXj (alts:=Ql ()) a3 true (.here () rfl (.refl _) (.refl _)))
 (kIf (c:=x0==[(99:UInt8),(101:UInt8),(105:UInt8),(108:UInt8)]) (kXj (alts:=Ql ()) a3 true (.here () rfl (.refl _) (.refl _)))
 (kIf (c:=x0==[(102:UInt8),(108:UInt8),(111:UInt8),(111:UInt8),(114:UInt8)]) (kXj (alts:=Ql ()) a3 true (.here () rfl (.refl _) (.refl _)))
 (kIf (c:=x0==[(122:UInt8),(101:UInt8),(114:UInt8),(111:UInt8)]) (kXj (alts:=Ql ()) a3 true (.here () rfl (.refl _) (.refl _)))
 (kIf (c:=x0==[(101:UInt8),(118:UInt8),(101:UInt8),(110:UInt8)]) (kXj (alts:=Ql ()) a3 true (.here () rfl (.refl _) (.refl _)))
 (kIf (c:=x0==[(115:UInt8),(97:UInt8),(116:UInt8)]) (kXj (alts:=Ql ()) a3 true (.here () rfl (.refl _) (.refl _)))
 (kIf (c:=x0==[(119:UInt8),(114:UInt8),(97:UInt8),(112:UInt8)]) (kXj (alts:=Ql ()) a3 true (.here () rfl (.refl _) (.refl _)))
 (kXj (alts:=Ql ()) a3 false (.next (.here () rfl (.refl _) (.refl _)))))))))))))))))))))))))))
 (fun v0=>(kEr (enc:=eB) true))
 (fun v0=>(kEr (enc:=eB) false))) h)
def KM(s:Str)(u:Int)(o:Unit ⊕ Bool):List Alt:=lp o (.exit 0) (fun _=>[.undef]) (fun _=>[]) .ret (fun x=>[.bool x]) (fun _=>[])
def QD(s:(Str×Int))(u:Int)(o:Bool):List Alt:=jb o (fun b=>[.str (s.1),ii (s.2),ii u,.bool b]) []
def ZF(x0:Str)(a5:Int)(a4:Int):Option (Unit ⊕ Bool):=
 if a4<a5 then
 ix x0 a4>>=fun v0=>
 some a4>>=fun v1=>
 (if(↑v0.toNat:Int)<97 then
 if(↑v0.toNat:Int)<48 then
 if(↑v0.toNat:Int) !=95 then
 some true
 else
 some false
 else
 if 57< (↑v0.toNat:Int) then
 if(↑v0.toNat:Int) !=95 then
 some true
 else
 some false
 else
 some false
 else
 if 122< (↑v0.toNat:Int) then
 if(↑v0.toNat:Int)<48 then
 if(↑v0.toNat:Int) !=95 then
 some true
 else
 some false
 else
 if 57< (↑v0.toNat:Int) then
 if(↑v0.toNat:Int) !=95 then
 some true
 else
 some false
 else
 some false
 else
 some false)>>=fun v2=>if v2 then
 some (.inr false)
 else
 ZF x0 a5 (wr (v1+1))
 else
 some (.inl ())
 partial_fixpoint
theorem E9(x0 x28 a4 o)(h:ZF x0 x28 a4=some o):LO 147 4 54 [0,28,29] [.str x0,ii x28,ii a4] [] [2] (KM x0 x28 o):=
 ZF.partial_correctness x0 x28 (fun a4 o=>LO 147 4 54 [0,28,29] [.str x0,ii x28,ii a4] [] [2] (KM x0 x28 o))
 (fun ZF Q7z a4 o h=>
 Lp2 (hs:=[(30,.split),(34,.u),(36,.split),(39,.split),(43,.split),(46,.split),(51,.split),(5000007,.l [] [] [] [0,28,29,52] [] (QD (x0,x28)))]) (kb:=[]) (kbx:=[]) ((kIfD (p:=a4<x28) (kU (s:=x0) (k:=a4) fun v0=>(kJb (id:=5000007) a4 (fun v1 a3 v2=>(kIfD (p:=(↑v0.toNat:Int)<97) (kIfD (p:=(↑v0.toNat:Int)<48) (kIf (c:=(↑v0.toNat:Int) !=95) (kXj (alts:=QD (x0,x28)) a3 true (.here () rfl (.refl _) (.refl _)))
 (kXj (alts:=QD (x0,x28)) a3 false (.next (.here () rfl (.refl _) (.refl _)))))
 (kIfD (p:=57< (↑v0.toNat:Int)) (kIf (c:=(↑v0.toNat:Int) !=95) (kXj (alts:=QD (x0,x28)) a3 true (.here () rfl (.refl _) (.refl _)))
 (kXj (alts:=QD (x0,x28)) a3 false (.next (.here () rfl (.refl _) (.refl _)))))
 (kXj (alts:=QD (x0,x28)) a3 false (.next (.here () rfl (.refl _) (.refl _))))))
 (kIfD (p:=122< (↑v0.toNat:Int)) (kIfD (p:=(↑v0.toNat:Int)<48) (kIf (c:=(↑v0.toNat:Int) !=95) (kXj (alts:=QD (x0,x28)) a3 true (.here () rfl (.refl _) (.refl _)))
 (kXj (alts:=QD (x0,x28)) a3 false (.next (.here () rfl (.refl _) (.refl _)))))
 (kIfD (p:=57< (↑v0.toNat:Int)) (kIf (c:=(↑v0.toNat:Int) !=95) (kXj (alts:=QD (x0,x28)) a3 true (.here () rfl (.refl _) (.refl _)))
 (kXj (alts:=QD (x0,x28)) a3 false (.next (.here () rfl (.refl _) (.refl _)))))
 (kXj (alts:=QD (x0,x28)) a3 false (.next (.here () rfl (.refl _) (.refl _))))))
 (kXj (alts:=QD (x0,x28)) a3 false (.next (.here () rfl (.refl _) (.refl _)))))))
 (fun v1=>(kX (alts:=KM x0 x28) (.inr false) (.next (.here _ rfl (.refl _) (.refl _)))))
 (fun v1=>(kM0 (alts:=KM x0 x28) (Q7z (wr (v1+1)))))))
 (kX (alts:=KM x0 x28) (.inl ()) (.here _ rfl (.refl _) (.refl _)))) h)) a4 o h
def ZV(s:Str)(u:Unit)(o:Bool):List Alt:=jb o (fun b=>[.str s,.bool b]) []
def Dv(x0:Str):Option Bool:=
 some ()>>=fun v0=>
 (if(↑(List.length x0):Int)<1 then
 some true
 else
 if 16< (↑(List.length x0):Int) then
 some true
 else
 CG x0>>=fun v2=>if v2 then
 some true
 else
 ix x0 (0:Int)>>=fun v3=>
 if(↑v3.toNat:Int)<97 then
 some true
 else
 ix x0 (0:Int)>>=fun v4=>
 if 122< (↑v4.toNat:Int) then
 some true
 else
 some false)>>=fun v1=>if v1 then
 some false
 else
 some (↑(List.length x0):Int)>>=fun v7=>
 ZF x0 (↑(List.length x0):Int) (0:Int)>>=fun v8=>(match v8 with
 | (.inl v9)=>
 some true
 | (.inr v10)=>
 some v10)
theorem Tq(x0 r)(h:Dv x0=some r):PU 147 [eS x0] (eB r):=
 Pu2 (hs:=[(7,.split),(11,.split),(15,.cb),(19,.u),(20,.split),(24,.u),(25,.split),(3000005,.l [] [0,28,29] [] [2] [] (KM x0)),(5000001,.l [] [] [] [0,26] [] (ZV x0))]) ((kJb (id:=5000001) () (fun v0 a3 v1=>(kIfD (p:=(↑(List.length x0):Int)<1) (kXj (alts:=ZV x0) a3 true (.here () rfl (.refl _) (.refl _)))
 (kIfD (p:=16< (↑(List.length x0):Int)) (kXj (alts:=ZV x0) a3 true (.here () rfl (.refl _) (.refl _)))
 (kCb (AD x0) (kXj (alts:=ZV x0) a3 true (.here () rfl (.refl _) (.refl _)))
 (kU (s:=x0) (k:=(0:Int)) fun v3=>(kIfD (p:=(↑v3.toNat:Int)<97) (kXj (alts:=ZV x0) a3 true (.here () rfl (.refl _) (.refl _)))
 (kU (s:=x0) (k:=(0:Int)) fun v4=>(kIfD (p:=122< (↑v4.toNat:Int)) (kXj (alts:=ZV x0) a3 true (.here () rfl (.refl _) (.refl _)))
 (kXj (alts:=ZV x0) a3 false (.next (.here () rfl (.refl _) (.refl _))))))))))))
 (fun v0=>(kEr (enc:=eB) false))
 (fun v0=>(kL2 (↑(List.length x0):Int) (hL:=(E9 x0 (↑(List.length x0):Int) (0:Int))) (hA:=fun v7 v9=>(kEr (enc:=eB) true))
 (hB:=fun v7 a4=>(kEr (enc:=eB) a4))))) h)
def VH(s:gLin)(u:((List Zh)×Int))(o:Unit ⊕ Int):List Alt:=lp o (.exit 0) (fun _=>[.undef]) (fun _=>[]) .ret (fun x=>[ii x]) (fun _=>[])
def Yi(s:(gLin× (List Zh)×Int))(u:Int)(o:Bool):List Alt:=jb o (fun b=>[.ptr 0 0 0,.sl 2 (List.map Qk (s.2.1)),ii (s.2.2),ii u,.bool b]) [.cells 0 (Qe (s.1)).cells]
def XS(x1:gLin)(x6:List Zh)(x7:Int)(x8:Int):Option (Unit ⊕ Int):=
 if x8<x7 then
 ix x6 x8>>=fun v0=>
 some x8>>=fun v1=>
 (Dv v0.fa>>=fun v3=>if v3 then
 if v0.fBy==0 then
 some true
 else
 if 0<x8 then
 ix x1.fL (wr (x8 - (1:Int)))>>=fun v4=>
 if !Op.bytesLess v4.fa v0.fa then
 some true
 else
 some false
 else
 some false
 else
 some true)>>=fun v2=>if v2 then
 some (.inr (1:Int))
 else
 XS x1 x6 x7 (wr (v1+1))
 else
 some (.inl ())
 partial_fixpoint
theorem RN(x1 x6 x7 x8 o)(h:XS x1 x6 x7 x8=some o):LO 146 2 39 [1,6,7,8] [.ptr 0 0 0,.sl 2 (List.map Qk x6),ii x7,ii x8] [.cells 0 (Qe x1).cells] [2] (VH x1 (x6,x7) o):=
 XS.partial_correctness x1 x6 x7 (fun x8 o=>LO 146 2 39 [1,6,7,8] [.ptr 0 0 0,.sl 2 (List.map Qk x6),ii x7,ii x8] [.cells 0 (Qe x1).cells] [2] (VH x1 (x6,x7) o))
 (fun XS Q7y x8 o h=>
 Lp2 (hs:=[(9,.split),(11,.e Qk),(15,.cb),(20,.split),(24,.split),(30,.e Qk),(35,.split),(5000004,.l [] [] [] [1,6,7,8,37] [kk 1] (Yi (x1,x6,x7)))]) (kb:=[kk 1]) (kbx:=[]) ((kIfD (p:=x8<x7) (kIx (enc:=Qk) (l:=x6) (k:=x8) fun v0=>(kJb (id:=5000004) x8 (fun v1 a3 v2=>(kCb (Tq v0.fa) (kIf (c:=v0.fBy==0) (kXj (alts:=Yi (x1,x6,x7)) a3 true (.here () rfl (.refl _) (.refl _)))
 (kIfD (p:=0<x8) (kIx (enc:=Qk) (l:=x1.fL) (k:=wr (x8 - (1:Int))) fun v4=>(kIf (c:= !Op.bytesLess v4.fa v0.fa) (kXj (alts:=Yi (x1,x6,x7)) a3 true (.here () rfl (.refl _) (.refl _)))
 (kXj (alts:=Yi (x1,x6,x7)) a3 false (.next (.here () rfl (.refl _) (.refl _))))))
 (kXj (alts:=Yi (x1,x6,x7)) a3 false (.next (.here () rfl (.refl _) (.refl _))))))
 (kXj (alts:=Yi (x1,x6,x7)) a3 true (.here () rfl (.refl _) (.refl _)))))
 (fun v1=>(kX (alts:=VH x1 (x6,x7)) (.inr (1:Int)) (.next (.here _ rfl (.refl _) (.refl _)))))
 (fun v1=>(kM0 (alts:=VH x1 (x6,x7)) (Q7y (wr (v1+1)))))))
 (kX (alts:=VH x1 (x6,x7)) (.inl ()) (.here _ rfl (.refl _) (.refl _)))) h)) x8 o h
def CF(x0:gLin):Option Int:=
 some (List.length x0.fL:Int)>>=fun v0=>
 some (x0.fL,v0)>>=fun v1=>
 XS x0 x0.fL v0 0>>=fun v2=>(match v2 with
 | (.inl v3)=>
 some (0:Int)
 | (.inr v4)=>
 some v4)
theorem AC(x0 r)(h:CF x0=some r):PU 146 [Qe x0] (eI r):=
 Pu2 (hs:=[(7,.n eI 7 none),(3000003,.l [] [1,6,7,8] [kk 1] [2] [] (VH x0))]) ((kN _ (mLen (sh:=Qk) x0.fL) fun v0=>(kL2 (x0.fL,v0) (hL:=(RN x0 x0.fL v0 0)) (hA:=fun v1 v3=>(kEr (enc:=eI) (0:Int)))
 (hB:=fun v1 v4=>(kEr (enc:=eI) v4)))) h)
def DX(x0:Int):Option Bool:=
 some (x0 !=x0)
theorem I8(x0 r)(h:DX x0=some r):PU 374 [eI x0] (eB r):=
 Pu2 (hs:=[]) ((kEr (enc:=eB) (x0 !=x0)) h)
def ZJ(x0:Int)(x1:Int):Option Int:=
 DX x0>>=fun v0=>
 DX x1>>=fun v1=>
 if v0 then
 if v1 then
 some (0:Int)
 else
 some (-1:Int)
 else
 if v1 then
 some (1:Int)
 else
 if x0<x1 then
 some (-1:Int)
 else
 if x1<x0 then
 some (1:Int)
 else
 some (0:Int)
theorem XZ(x0 x1 r)(h:ZJ x0 x1=some r):PU 330 [eI x0,eI x1] (eI r):=
 Pu2 (hs:=[(8,.c eB),(10,.c eB),(11,.split),(12,.split),(13,.split),(16,.split),(19,.split)]) ((kC (sh:=eB) (I8 x0) fun v0=>(kC (sh:=eB) (I8 x1) fun v1=>(kIf (c:=v0) (kIf (c:=v1) (kEr (enc:=eI) (0:Int))
 (kEr (enc:=eI) (-1:Int)))
 (kIf (c:=v1) (kEr (enc:=eI) (1:Int))
 (kIfD (p:=x0<x1) (kEr (enc:=eI) (-1:Int))
 (kIfD (p:=x1<x0) (kEr (enc:=eI) (1:Int))
 (kEr (enc:=eI) (0:Int)))))))) h)
def Vb(x0:Str)(x1:Str):Option Int:=
 XO x0 x1>>=fun v0=>
 some v0
theorem WU(x0 x1 r)(h:Vb x0 x1=some r):PU 375 [eS x0,eS x1] (eI r):=
 Pu2 (hs:=[(7,.c eI)]) ((kC (sh:=eI) (GZ x0 x1) fun v0=>(kEr (enc:=eI) v0)) h)
def VM(x0:Str)(x1:Str):Option Int:=
 Vb x0 x1>>=fun v0=>
 some v0
theorem Wc(x0 x1 r)(h:VM x0 x1=some r):PU 331 [eS x0,eS x1] (eI r):=
 Pu2 (hs:=[(7,.c eI)]) ((kC (sh:=eI) (WU x0 x1) fun v0=>(kEr (enc:=eI) v0)) h)
def D0(x0:Int):Option Bool:=
 some (x0 !=x0)
theorem MU(x0 r)(h:D0 x0=some r):PU 376 [eI x0] (eB r):=
 Pu2 (hs:=[]) ((kEr (enc:=eB) (x0 !=x0)) h)
def J0(x0:Int)(x1:Int):Option Int:=
 D0 x0>>=fun v0=>
 D0 x1>>=fun v1=>
 if v0 then
 if v1 then
 some (0:Int)
 else
 some (-1:Int)
 else
 if v1 then
 some (1:Int)
 else
 if x0<x1 then
 some (-1:Int)
 else
 if x1<x0 then
 some (1:Int)
 else
 some (0:Int)
theorem NQ(x0 x1 r)(h:J0 x0 x1=some r):PU 332 [eI x0,eI x1] (eI r):=
 Pu2 (hs:=[(8,.c eB),(10,.c eB),(11,.split),(12,.split),(13,.split),(16,.split),(19,.split)]) ((kC (sh:=eB) (MU x0) fun v0=>(kC (sh:=eB) (MU x1) fun v1=>(kIf (c:=v0) (kIf (c:=v1) (kEr (enc:=eI) (0:Int))
 (kEr (enc:=eI) (-1:Int)))
 (kIf (c:=v1) (kEr (enc:=eI) (1:Int))
 (kIfD (p:=x0<x1) (kEr (enc:=eI) (-1:Int))
 (kIfD (p:=x1<x0) (kEr (enc:=eI) (1:Int))
 (kEr (enc:=eI) (0:Int)))))))) h)
def U4(s:Unit)(u:(Int× (List Int)×Int))(o:Unit ⊕ Int):List Alt:=lp o (.exit 0) (fun _=>[.undef,ii u.1]) (fun _=>[]) .ret (fun x=>[ii x,ii u.1]) (fun _=>[])
def YX(x3:Int)(x6:List Int)(x7:Int)(x8:Int):Option (Unit ⊕ Int):=
 if x8<x7 then
 ix x6 x8>>=fun v0=>
 if v0 !=x3 then
 some (.inr v0)
 else
 YX x3 x6 x7 (wr (x8+1))
 else
 some (.inl ())
 partial_fixpoint
theorem Sa(x3 x6 x7 x8 o)(h:YX x3 x6 x7 x8=some o):LO 329 3 18 [3,6,7,8] [ii x3,.sl 1 (List.map eI x6),ii x7,ii x8] [] [2,3] (U4 () (x3,x6,x7) o):=
 YX.partial_correctness x3 x6 x7 (fun x8 o=>LO 329 3 18 [3,6,7,8] [ii x3,.sl 1 (List.map eI x6),ii x7,ii x8] [] [2,3] (U4 () (x3,x6,x7) o))
 (fun YX Q7q x8 o h=>
 Lp2 (hs:=[(9,.split),(10,.e eI),(14,.split)]) (kb:=[]) (kbx:=[]) ((kIfD (p:=x8<x7) (kIx (enc:=eI) (l:=x6) (k:=x8) fun v0=>(kIf (c:=v0 !=x3) (kX (alts:=U4 () (x3,x6,x7)) (.inr v0) (.next (.here _ rfl (.refl _) (.refl _))))
 (kM0 (alts:=U4 () (x3,x6,x7)) (Q7q (wr (x8+1))))))
 (kX (alts:=U4 () (x3,x6,x7)) (.inl ()) (.here _ rfl (.refl _) (.refl _)))) h)) x8 o h
def Cf(x0:List Int):Option Int:=
 some (List.length x0:Int)>>=fun v0=>
 some ((0:Int),x0,v0)>>=fun v1=>
 YX 0 x0 v0 0>>=fun v2=>(match v2 with
 | (.inl v3)=>
 some v1.fst
 | (.inr v4)=>
 some v4)
theorem Ej(x0 r)(h:Cf x0=some r):PU 329 [eLI x0] (eI r):=
 Pu2 (hs:=[(7,.n eI 7 none),(3000004,.l [] [3,6,7,8] [] [2,3] [] (U4 ()))]) ((kN _ (mLen (sh:=eI) x0) fun v0=>(kL2 ((0:Int),x0,v0) (hL:=(Sa 0 x0 v0 0)) (hA:=fun v1 v3=>(kEr (enc:=eI) v1.fst))
 (hB:=fun v1 v4=>(kEr (enc:=eI) v4)))) h)
def Cg(x0:Qc)(x1:Qc):Option Int:=
 ZJ x0.fk x1.fk>>=fun v0=>
 ZJ x0.fm x1.fm>>=fun v1=>
 ZJ x0.fv x1.fv>>=fun v2=>
 ZJ x0.fo x1.fo>>=fun v3=>
 ZJ x0.fw x1.fw>>=fun v4=>
 Cf [v0,v1,v2,v3,v4]>>=fun v5=>
 some v5
theorem El(x0 x1 r)(h:Cg x0 x1=some r):PU 333 [Qf x0,Qf x1] (eI r):=
 Pu2 (hs:=[(9,.c eI),(14,.c eI),(19,.c eI),(24,.c eI),(29,.c eI),(31,.c eI)]) ((kC (sh:=eI) (XZ x0.fk x1.fk) fun v0=>(kC (sh:=eI) (XZ x0.fm x1.fm) fun v1=>(kC (sh:=eI) (XZ x0.fv x1.fv) fun v2=>(kC (sh:=eI) (XZ x0.fo x1.fo) fun v3=>(kC (sh:=eI) (XZ x0.fw x1.fw) fun v4=>(kC (sh:=eI) (fun y hy=>Pu.le (Ej [v0,v1,v2,v3,v4] y hy) (.cons (LeT.sl (.cons (x:=AV.agg [ii v0]) (.refl _) (.cons (x:=AV.agg [ii v1]) (.refl _) (.cons (x:=AV.agg [ii v2]) (.refl _) (.cons (x:=AV.agg [ii v3]) (.refl _) (.cons (x:=AV.agg [ii v4]) (.refl _) .nil)))))) .nil) (LeT.refl _)) fun v5=>(kEr (enc:=eI) v5))))))) h)
def Wf(x0:Int)(x1:Int):Option Int:=
 if x0<x1 then
 some (-1:Int)
 else
 if x1<x0 then
 some (1:Int)
 else
 some (0:Int)
theorem RZ(x0 x1 r)(h:Wf x0 x1=some r):PU 379 [eI x0,eI x1] (eI r):=
 Pu2 (hs:=[(8,.split),(12,.split)]) ((kIfD (p:=x0<x1) (kEr (enc:=eI) (-1:Int))
 (kIfD (p:=x1<x0) (kEr (enc:=eI) (1:Int))
 (kEr (enc:=eI) (0:Int)))) h)
def I6(x0:Zh)(x1:Zh):Option Int:=
 if !x0.fa==x1.fa then
 VM x0.fa x1.fa>>=fun v0=>
 some v0
 else
 Wf x0.fBy x1.fBy>>=fun v1=>
 some v1
theorem Sf(x0 x1 r)(h:I6 x0 x1=some r):PU 378 [Qk x0,Qk x1] (eI r):=
 Pu2 (hs:=[(9,.split),(14,.c eI),(19,.c eI)]) ((kIf (c:= !x0.fa==x1.fa) (kC (sh:=eI) (Wc x0.fa x1.fa) fun v0=>(kEr (enc:=eI) v0))
 (kC (sh:=eI) (RZ x0.fBy x1.fBy) fun v1=>(kEr (enc:=eI) v1))) h)
def QP(s:((List Zh)× (List Zh)))(u:((List Zh)×Int))(o:Unit ⊕ Int):List Alt:=lp o (.exit 0) (fun _=>[.sl 2 (List.map Qk s.1),.sl 2 (List.map Qk s.2),.undef]) (fun _=>[]) .ret (fun x=>[.sl 2 (List.map Qk s.1),.sl 2 (List.map Qk s.2),ii x]) (fun _=>[])
def QQ(x1:List Zh)(a4:List Zh)(a5:Int)(a3:Int):Option (Unit ⊕ Int):=
 if a3<a5 then
 ix a4 a3>>=fun v0=>
 some (List.length x1:Int)>>=fun v1=>
 if v1≤a3 then
 some (.inr (1:Int))
 else
 ix x1 a3>>=fun v2=>
 I6 v0 v2>>=fun v3=>
 if v3 !=0 then
 some (.inr v3)
 else
 QQ x1 a4 a5 (wr (a3+1))
 else
 some (.inl ())
 partial_fixpoint
theorem Cb(x0:List Zh)(x1:List Zh)(a3:List Zh)(a4:Int)(a5:Int)(o:Unit ⊕ Int)(h:QQ x1 a3 a4 a5=some o):LO 377 2 39 [0,1,2,11,12,13] [.sl 2 (List.map Qk x0),.sl 2 (List.map Qk x1),.fn 378 [],.sl 2 (List.map Qk a3),ii a4,ii a5] [] [0,1,6] (QP (x0,x1) (a3,a4) o):=
 QQ.partial_correctness x1 a3 a4 (fun a5 o=>∀(x0:List Zh),LO 377 2 39 [0,1,2,11,12,13] [.sl 2 (List.map Qk x0),.sl 2 (List.map Qk x1),.fn 378 [],.sl 2 (List.map Qk a3),ii a4,ii a5] [] [0,1,6] (QP (x0,x1) (a3,a4) o))
 (fun QQ Qa5 a5 o h x0=>
 Lp2 (hs:=[(14,.split),(16,.e Qk),(20,.n eI 20 none),(21,.split),(24,.e Qk),(29,.c eI),(31,.split)]) (kb:=[]) (kbx:=[]) ((kIfD (p:=a5<a4) (kIx (enc:=Qk) (l:=a3) (k:=a5) fun v0=>(kN _ (mLen (sh:=Qk) x1) fun v1=>(kIfD (p:=v1≤a5) (kX (alts:=QP (x0,x1) (a3,a4)) (.inr (1:Int)) (.next (.here _ rfl (.refl _) (.refl _))))
 (kIx (enc:=Qk) (l:=x1) (k:=a5) fun v2=>(kC (sh:=eI) (Sf v0 v2) fun v3=>(kIf (c:=v3 !=0) (kX (alts:=QP (x0,x1) (a3,a4)) (.inr v3) (.next (.here _ rfl (.refl _) (.refl _))))
 (kM0 (alts:=QP (x0,x1) (a3,a4)) (fun y hy=>Qa5 (wr (a5+1)) y hy x0))))))))
 (kX (alts:=QP (x0,x1) (a3,a4)) (.inl ()) (.here _ rfl (.refl _) (.refl _)))) h)) a5 o h x0
def KI(x0:List Zh)(x1:List Zh):Option Int:=
 some (List.length x0:Int)>>=fun v0=>
 some (x0,v0)>>=fun v1=>
 QQ x1 x0 v0 0>>=fun v2=>(match v2 with
 | (.inl v3)=>
 some (List.length x0:Int)>>=fun v4=>
 some (List.length x1:Int)>>=fun v5=>
 if v4<v5 then
 some (-1:Int)
 else
 some (0:Int)
 | (.inr v6)=>
 some v6)
theorem W8(x0 x1 r)(h:KI x0 x1=some r):PU 377 [N5 x0,N5 x1,.fn 378 []] (eI r):=
 Pu2 (hs:=[(12,.n eI 12 none),(35,.n eI 35 none),(37,.n eI 37 none),(38,.split),(3000003,.l [] [0,1,2,11,12,13] [] [0,1,6] [] (QP (x0,x1)))]) ((kN _ (mLen (sh:=Qk) x0) fun v0=>(kL2 (x0,v0) (hL:=(Cb x0 x1 x0 v0 0)) (hA:=fun v1 v3=>(kN _ (mLen (sh:=Qk) x0) fun v4=>(kN _ (mLen (sh:=Qk) x1) fun v5=>(kIfD (p:=v4<v5) (kEr (enc:=eI) (-1:Int))
 (kEr (enc:=eI) (0:Int))))))
 (hB:=fun v1 v6=>(kEr (enc:=eI) v6)))) h)
def Gn(x0:gLin)(x1:gLin):Option Int:=
 KI x0.fL x1.fL>>=fun v0=>
 if v0 !=0 then
 some v0
 else
 Wf x0.fK x1.fK>>=fun v1=>
 some v1
theorem MP(x0 x1 r)(h:Gn x0 x1=some r):PU 334 [Qe x0,Qe x1] (eI r):=
 Pu2 (hs:=[(10,.c eI),(12,.split),(18,.c eI)]) ((kC (sh:=eI) (W8 x0.fL x1.fL) fun v0=>(kIf (c:=v0 !=0) (kEr (enc:=eI) v0)
 (kC (sh:=eI) (RZ x0.fK x1.fK) fun v1=>(kEr (enc:=eI) v1)))) h)
def QY(s:((List gLin)× (List gLin)))(u:((List gLin)×Int))(o:Unit ⊕ Int):List Alt:=lp o (.exit 0) (fun _=>[.sl 2 (List.map Qe s.1),.sl 2 (List.map Qe s.2),.undef]) (fun _=>[]) .ret (fun x=>[.sl 2 (List.map Qe s.1),.sl 2 (List.map Qe s.2),ii x]) (fun _=>[])
def ZM(x1:List gLin)(a4:List gLin)(a5:Int)(a3:Int):Option (Unit ⊕ Int):=
 if a3<a5 then
 ix a4 a3>>=fun v0=>
 some (List.length x1:Int)>>=fun v1=>
 if v1≤a3 then
 some (.inr (1:Int))
 else
 ix x1 a3>>=fun v2=>
 Gn v0 v2>>=fun v3=>
 if v3 !=0 then
 some (.inr v3)
 else
 ZM x1 a4 a5 (wr (a3+1))
 else
 some (.inl ())
 partial_fixpoint
theorem Ci(x0:List gLin)(x1:List gLin)(a3:List gLin)(a4:Int)(a5:Int)(o:Unit ⊕ Int)(h:ZM x1 a3 a4 a5=some o):LO 402 2 39 [0,1,2,11,12,13] [.sl 2 (List.map Qe x0),.sl 2 (List.map Qe x1),.fn 334 [],.sl 2 (List.map Qe a3),ii a4,ii a5] [] [0,1,6] (QY (x0,x1) (a3,a4) o):=
 ZM.partial_correctness x1 a3 a4 (fun a5 o=>∀(x0:List gLin),LO 402 2 39 [0,1,2,11,12,13] [.sl 2 (List.map Qe x0),.sl 2 (List.map Qe x1),.fn 334 [],.sl 2 (List.map Qe a3),ii a4,ii a5] [] [0,1,6] (QY (x0,x1) (a3,a4) o))
 (fun ZM Qa4 a5 o h x0=>
 Lp2 (hs:=[(14,.split),(16,.e Qe),(20,.n eI 20 none),(21,.split),(24,.e Qe),(29,.c eI),(31,.split)]) (kb:=[]) (kbx:=[]) ((kIfD (p:=a5<a4) (kIx (enc:=Qe) (l:=a3) (k:=a5) fun v0=>(kN _ (mLen (sh:=Qe) x1) fun v1=>(kIfD (p:=v1≤a5) (kX (alts:=QY (x0,x1) (a3,a4)) (.inr (1:Int)) (.next (.here _ rfl (.refl _) (.refl _))))
 (kIx (enc:=Qe) (l:=x1) (k:=a5) fun v2=>(kC (sh:=eI) (MP v0 v2) fun v3=>(kIf (c:=v3 !=0) (kX (alts:=QY (x0,x1) (a3,a4)) (.inr v3) (.next (.here _ rfl (.refl _) (.refl _))))
 (kM0 (alts:=QY (x0,x1) (a3,a4)) (fun y hy=>Qa4 (wr (a5+1)) y hy x0))))))))
 (kX (alts:=QY (x0,x1) (a3,a4)) (.inl ()) (.here _ rfl (.refl _) (.refl _)))) h)) a5 o h x0
def UL(x0:List gLin)(x1:List gLin):Option Int:=
 some (List.length x0:Int)>>=fun v0=>
 some (x0,v0)>>=fun v1=>
 ZM x1 x0 v0 0>>=fun v2=>(match v2 with
 | (.inl v3)=>
 some (List.length x0:Int)>>=fun v4=>
 some (List.length x1:Int)>>=fun v5=>
 if v4<v5 then
 some (-1:Int)
 else
 some (0:Int)
 | (.inr v6)=>
 some v6)
theorem Wh(x0 x1 r)(h:UL x0 x1=some r):PU 402 [GI x0,GI x1,.fn 334 []] (eI r):=
 Pu2 (hs:=[(12,.n eI 12 none),(35,.n eI 35 none),(37,.n eI 37 none),(38,.split),(3000003,.l [] [0,1,2,11,12,13] [] [0,1,6] [] (QY (x0,x1)))]) ((kN _ (mLen (sh:=Qe) x0) fun v0=>(kL2 (x0,v0) (hL:=(Ci x0 x1 x0 v0 0)) (hA:=fun v1 v3=>(kN _ (mLen (sh:=Qe) x0) fun v4=>(kN _ (mLen (sh:=Qe) x1) fun v5=>(kIfD (p:=v4<v5) (kEr (enc:=eI) (-1:Int))
 (kEr (enc:=eI) (0:Int))))))
 (hB:=fun v1 v6=>(kEr (enc:=eI) v6)))) h)
def G4(x0:List gLin)(x1:List gLin):Option Int:=
 some (List.length x0:Int)>>=fun v0=>
 some (List.length x1:Int)>>=fun v1=>
 ZJ v0 v1>>=fun v2=>
 if v2 !=0 then
 some v2
 else
 UL x0 x1>>=fun v3=>
 some v3
theorem WT(x0 x1 r)(h:G4 x0 x1=some r):PU 381 [GI x0,GI x1,.fn 334 []] (eI r):=
 Pu2 (hs:=[(9,.n eI 9 none),(11,.n eI 11 none),(12,.c eI),(14,.split),(19,.c eI)]) ((kN _ (mLen (sh:=Qe) x0) fun v0=>(kN _ (mLen (sh:=Qe) x1) fun v1=>(kC (sh:=eI) (XZ v0 v1) fun v2=>(kIf (c:=v2 !=0) (kEr (enc:=eI) v2)
 (kC (sh:=eI) (Wh x0 x1) fun v3=>(kEr (enc:=eI) v3)))))) h)
def NP(x0:Q7)(x1:Q7):Option Int:=
 VM x0.fu x1.fu>>=fun v0=>
 if v0 !=0 then
 some v0
 else
 Gn x0.fj x1.fj>>=fun v1=>
 if v1 !=0 then
 some v1
 else
 G4 x0.fAt x1.fAt>>=fun v2=>
 some v2
theorem E8(x0 x1 r)(h:NP x0 x1=some r):PU 336 [Q2 x0,Q2 x1] (eI r):=
 Pu2 (hs:=[(11,.c eI),(13,.split),(19,.c eI),(21,.split),(27,.c eI)]) ((kC (sh:=eI) (Wc x0.fu x1.fu) fun v0=>(kIf (c:=v0 !=0) (kEr (enc:=eI) v0)
 (kC (sh:=eI) (MP x0.fj x1.fj) fun v1=>(kIf (c:=v1 !=0) (kEr (enc:=eI) v1)
 (kC (sh:=eI) (WT x0.fAt x1.fAt) fun v2=>(kEr (enc:=eI) v2)))))) h)
def QK(s:((List Q7)× (List Q7)))(u:((List Q7)×Int))(o:Unit ⊕ Int):List Alt:=lp o (.exit 0) (fun _=>[.sl 4 (List.map Q2 s.1),.sl 4 (List.map Q2 s.2),.undef]) (fun _=>[]) .ret (fun x=>[.sl 4 (List.map Q2 s.1),.sl 4 (List.map Q2 s.2),ii x]) (fun _=>[])
def Zb(x1:List Q7)(a4:List Q7)(a5:Int)(a3:Int):Option (Unit ⊕ Int):=
 if a3<a5 then
 ix a4 a3>>=fun v0=>
 some (List.length x1:Int)>>=fun v1=>
 if v1≤a3 then
 some (.inr (1:Int))
 else
 ix x1 a3>>=fun v2=>
 NP v0 v2>>=fun v3=>
 if v3 !=0 then
 some (.inr v3)
 else
 Zb x1 a4 a5 (wr (a3+1))
 else
 some (.inl ())
 partial_fixpoint
theorem DU(x0:List Q7)(x1:List Q7)(a3:List Q7)(a4:Int)(a5:Int)(o:Unit ⊕ Int)(h:Zb x1 a3 a4 a5=some o):LO 380 2 39 [0,1,2,11,12,13] [.sl 4 (List.map Q2 x0),.sl 4 (List.map Q2 x1),.fn 336 [],.sl 4 (List.map Q2 a3),ii a4,ii a5] [] [0,1,6] (QK (x0,x1) (a3,a4) o):=
 Zb.partial_correctness x1 a3 a4 (fun a5 o=>∀(x0:List Q7),LO 380 2 39 [0,1,2,11,12,13] [.sl 4 (List.map Q2 x0),.sl 4 (List.map Q2 x1),.fn 336 [],.sl 4 (List.map Q2 a3),ii a4,ii a5] [] [0,1,6] (QK (x0,x1) (a3,a4) o))
 (fun Zb Qa3 a5 o h x0=>
 Lp2 (hs:=[(14,.split),(16,.e Q2),(20,.n eI 20 none),(21,.split),(24,.e Q2),(29,.c eI),(31,.split)]) (kb:=[]) (kbx:=[]) ((kIfD (p:=a5<a4) (kIx (enc:=Q2) (l:=a3) (k:=a5) fun v0=>(kN _ (mLen (sh:=Q2) x1) fun v1=>(kIfD (p:=v1≤a5) (kX (alts:=QK (x0,x1) (a3,a4)) (.inr (1:Int)) (.next (.here _ rfl (.refl _) (.refl _))))
 (kIx (enc:=Q2) (l:=x1) (k:=a5) fun v2=>(kC (sh:=eI) (E8 v0 v2) fun v3=>(kIf (c:=v3 !=0) (kX (alts:=QK (x0,x1) (a3,a4)) (.inr v3) (.next (.here _ rfl (.refl _) (.refl _))))
 (kM0 (alts:=QK (x0,x1) (a3,a4)) (fun y hy=>Qa3 (wr (a5+1)) y hy x0))))))))
 (kX (alts:=QK (x0,x1) (a3,a4)) (.inl ()) (.here _ rfl (.refl _) (.refl _)))) h)) a5 o h x0
def KA(x0:List Q7)(x1:List Q7):Option Int:=
 some (List.length x0:Int)>>=fun v0=>
 some (x0,v0)>>=fun v1=>
 Zb x1 x0 v0 0>>=fun v2=>(match v2 with
 | (.inl v3)=>
 some (List.length x0:Int)>>=fun v4=>
 some (List.length x1:Int)>>=fun v5=>
 if v4<v5 then
 some (-1:Int)
 else
 some (0:Int)
 | (.inr v6)=>
 some v6)
theorem CK(x0 x1 r)(h:KA x0 x1=some r):PU 380 [YB x0,YB x1,.fn 336 []] (eI r):=
 Pu2 (hs:=[(12,.n eI 12 none),(35,.n eI 35 none),(37,.n eI 37 none),(38,.split),(3000003,.l [] [0,1,2,11,12,13] [] [0,1,6] [] (QK (x0,x1)))]) ((kN _ (mLen (sh:=Q2) x0) fun v0=>(kL2 (x0,v0) (hL:=(DU x0 x1 x0 v0 0)) (hA:=fun v1 v3=>(kN _ (mLen (sh:=Q2) x0) fun v4=>(kN _ (mLen (sh:=Q2) x1) fun v5=>(kIfD (p:=v4<v5) (kEr (enc:=eI) (-1:Int))
 (kEr (enc:=eI) (0:Int))))))
 (hB:=fun v1 v6=>(kEr (enc:=eI) v6)))) h)
def XR(x0:List Q7)(x1:List Q7):Option Int:=
 some (List.length x0:Int)>>=fun v0=>
 some (List.length x1:Int)>>=fun v1=>
 ZJ v0 v1>>=fun v2=>
 if v2 !=0 then
 some v2
 else
 KA x0 x1>>=fun v3=>
 some v3
theorem W7(x0 x1 r)(h:XR x0 x1=some r):PU 335 [YB x0,YB x1,.fn 336 []] (eI r):=
 Pu2 (hs:=[(9,.n eI 9 none),(11,.n eI 11 none),(12,.c eI),(14,.split),(19,.c eI)]) ((kN _ (mLen (sh:=Q2) x0) fun v0=>(kN _ (mLen (sh:=Q2) x1) fun v1=>(kC (sh:=eI) (XZ v0 v1) fun v2=>(kIf (c:=v2 !=0) (kEr (enc:=eI) v2)
 (kC (sh:=eI) (CK x0 x1) fun v3=>(kEr (enc:=eI) v3)))))) h)
def QO(s:((List Qa)× (List Qa)))(u:((List Qa)×Int))(o:Unit ⊕ Int):List Alt:=lp o (.exit 0) (fun _=>[.sl 13 (List.map Qi s.1),.sl 13 (List.map Qi s.2),.undef]) (fun _=>[]) .ret (fun x=>[.sl 13 (List.map Qi s.1),.sl 13 (List.map Qi s.2),ii x]) (fun _=>[])
mutual
def Je(x0:Q1)(x1:Q1):Option Int:=
 ZJ x0.fOp x1.fOp>>=fun v0=>
 VM x0.fa x1.fa>>=fun v1=>
 J0 x0.fx.fN x1.fx.fN>>=fun v2=>
 J0 x0.fx.fD x1.fx.fD>>=fun v3=>
 Cg x0.fd x1.fd>>=fun v4=>
 Gn x0.fj x1.fj>>=fun v5=>
 Cf [v0,v1,v2,v3,v4,v5]>>=fun v6=>
 if v6 !=0 then
 some v6
 else
 XR x0.fe x1.fe>>=fun v7=>
 if v7 !=0 then
 some v7
 else
 X6 x0.ff x1.ff>>=fun v8=>
 some v8
 partial_fixpoint
def X6(x0:List Qa)(x1:List Qa):Option Int:=
 some (List.length x0:Int)>>=fun v0=>
 some (List.length x1:Int)>>=fun v1=>
 ZJ v0 v1>>=fun v2=>
 if v2 !=0 then
 some v2
 else
 XX x0 x1>>=fun v3=>
 some v3
 partial_fixpoint
def XX(x0:List Qa)(x1:List Qa):Option Int:=
 some (List.length x0:Int)>>=fun v0=>
 some (x0,v0)>>=fun v1=>
 Zj x1 x0 v0 0>>=fun v2=>(match v2 with
 | (.inl v3)=>
 some (List.length x0:Int)>>=fun v4=>
 some (List.length x1:Int)>>=fun v5=>
 if v4<v5 then
 some (-1:Int)
 else
 some (0:Int)
 | (.inr v6)=>
 some v6)
 partial_fixpoint
def Zj(x1:List Qa)(a4:List Qa)(a5:Int)(a3:Int):Option (Unit ⊕ Int):=
 if a3<a5 then
 Option.map Qa.f (ix a4 a3)>>=fun v0=>
 some (List.length x1:Int)>>=fun v1=>
 if v1≤a3 then
 some (.inr (1:Int))
 else
 Option.map Qa.f (ix x1 a3)>>=fun v2=>
 Je v0 v2>>=fun v3=>
 if v3 !=0 then
 some (.inr v3)
 else
 Zj x1 a4 a5 (wr (a3+1))
 else
 some (.inl ())
 partial_fixpoint
end
theorem S8:(∀(x0:Q1) (x1:Q1) (r:Int),Je x0 x1=some r→PU 271 [Q5 x0,Q5 x1] (eI r))∧(∀(x0:List Qa) (x1:List Qa) (r:Int),X6 x0 x1=some r→PU 337 [YO x0,YO x1,.fn 271 []] (eI r))∧(∀(x0:List Qa) (x1:List Qa) (r:Int),XX x0 x1=some r→PU 382 [YO x0,YO x1,.fn 271 []] (eI r))∧(∀(x1:List Qa) (a5:List Qa) (a6:Int) (a7:Int) (o:Unit ⊕ Int),Zj x1 a5 a6 a7=some o→∀(x0:List Qa),LO 382 2 39 [0,1,2,11,12,13] [.sl 13 (List.map Qi x0),.sl 13 (List.map Qi x1),.fn 271 [],.sl 13 (List.map Qi a5),ii a6,ii a7] [] [0,1,6] (QO (x0,x1) (a5,a6) o)):=
 Je.mutual_partial_correctness _ _ _ _
 (fun X6 Q7s x0 x1 r h=>
 Pu2 (hs:=[(11,.c eI),(16,.c eI),(23,.c eI),(30,.c eI),(35,.c eI),(40,.c eI),(42,.c eI),(44,.split),(50,.c eI),(52,.split),(58,.c eI)]) ((kC (sh:=eI) (XZ x0.fOp x1.fOp) fun v0=>(kC (sh:=eI) (Wc x0.fa x1.fa) fun v1=>(kC (sh:=eI) (NQ x0.fx.fN x1.fx.fN) fun v2=>(kC (sh:=eI) (NQ x0.fx.fD x1.fx.fD) fun v3=>(kC (sh:=eI) (El x0.fd x1.fd) fun v4=>(kC (sh:=eI) (MP x0.fj x1.fj) fun v5=>(kC (sh:=eI) (fun y hy=>Pu.le (Ej [v0,v1,v2,v3,v4,v5] y hy) (.cons (LeT.sl (.cons (x:=AV.agg [ii v0]) (.refl _) (.cons (x:=AV.agg [ii v1]) (.refl _) (.cons (x:=AV.agg [ii v2]) (.refl _) (.cons (x:=AV.agg [ii v3]) (.refl _) (.cons (x:=AV.agg [ii v4]) (.refl _) (.cons (x:=AV.agg [ii v5]) (.refl _) .nil))))))) .nil) (LeT.refl _)) fun v6=>(kIf (c:=v6 !=0) (kEr (enc:=eI) v6)
 (kC (sh:=eI) (W7 x0.fe x1.fe) fun v7=>(kIf (c:=v7 !=0) (kEr (enc:=eI) v7)
 (kC (sh:=eI) (Q7s x0.ff x1.ff) fun v8=>(kEr (enc:=eI) v8)))))))))))) h))
 (fun XX Qa1 x0 x1 r h=>
 Pu2 (hs:=[(9,.n eI 9 none),(11,.n eI 11 none),(12,.c eI),(14,.split),(19,.c eI)]) ((kN _ (mLen (sh:=Qi) x0) fun v0=>(kN _ (mLen (sh:=Qi) x1) fun v1=>(kC (sh:=eI) (XZ v0 v1) fun v2=>(kIf (c:=v2 !=0) (kEr (enc:=eI) v2)
 (kC (sh:=eI) (Qa1 x0 x1) fun v3=>(kEr (enc:=eI) v3)))))) h))
 (fun Zj Qa2 x0 x1 r h=>
 Pu2 (hs:=[(12,.n eI 12 none),(35,.n eI 35 none),(37,.n eI 37 none),(38,.split),(3000003,.l [] [0,1,2,11,12,13] [] [0,1,6] [] (QO (x0,x1)))]) ((kN _ (mLen (sh:=Qi) x0) fun v0=>(kL2 (x0,v0) (hL:=(fun y hy=>Qa2 x1 x0 v0 0 y hy x0)) (hA:=fun v1 v3=>(kN _ (mLen (sh:=Qi) x0) fun v4=>(kN _ (mLen (sh:=Qi) x1) fun v5=>(kIfD (p:=v4<v5) (kEr (enc:=eI) (-1:Int))
 (kEr (enc:=eI) (0:Int))))))
 (hB:=fun v1 v6=>(kEr (enc:=eI) v6)))) h))
 (fun Je Zj Q7r Qa2 x1 a5 a6 a7 o h x0=>
 Lp2 (hs:=[(14,.split),(16,.e Q5),(20,.n eI 20 none),(21,.split),(24,.e Q5),(29,.c eI),(31,.split)]) (kb:=[]) (kbx:=[]) ((kIfD (p:=a7<a6) (kIxR (l:=a5) (k:=a7) XH fun v0=>(kN _ (mLen (sh:=Qi) x1) fun v1=>(kIfD (p:=v1≤a7) (kX (alts:=QO (x0,x1) (a5,a6)) (.inr (1:Int)) (.next (.here _ rfl (.refl _) (.refl _))))
 (kIxR (l:=x1) (k:=a7) XH fun v2=>(kC (sh:=eI) (Q7r v0 v2) fun v3=>(kIf (c:=v3 !=0) (kX (alts:=QO (x0,x1) (a5,a6)) (.inr v3) (.next (.here _ rfl (.refl _) (.refl _))))
 (kM0 (alts:=QO (x0,x1) (a5,a6)) (fun y hy=>Qa2 x1 a5 a6 (wr (a7+1)) y hy x0))))))))
 (kX (alts:=QO (x0,x1) (a5,a6)) (.inl ()) (.here _ rfl (.refl _) (.refl _)))) h))
theorem Ay(x0 x1 r)(h:Je x0 x1=some r):PU 271 [Q5 x0,Q5 x1] (eI r):=(S8).1 x0 x1 r h
def Iq(x0:Q1)(x1:Q1):Option Bool:=
 Je x0 x1>>=fun v0=>
 some (v0==0)
theorem Q00(x0 x1 r)(h:Iq x0 x1=some r):PU 222 [Q5 x0,Q5 x1] (eB r):=
 Pu2 (hs:=[(7,.c eI)]) ((kC (sh:=eI) (Ay x0 x1) fun v0=>(kEr (enc:=eB) (v0==0))) h)
def D6(x0:Q1):Option Bool:=
 some ((QS.mk (0:Int) [] (gVal.mk (0:Int) (0:Int)) (Qc.mk (0:Int) (0:Int) (0:Int) (0:Int) (0:Int)) (gLin.mk (0:Int) []) [] []:Q1))>>=fun v0=>
 Iq x0 v0>>=fun v1=>
 some v1
theorem RO(x0 r)(h:D6 x0=some r):PU 193 [Q5 x0] (eB r):=
 Pu2 (hs:=[(4,.n Q5 4 none),(5,.c eB)]) ((kW (sh:=Q5) (QS.mk (0:Int) [] (gVal.mk (0:Int) (0:Int)) (Qc.mk (0:Int) (0:Int) (0:Int) (0:Int) (0:Int)) (gLin.mk (0:Int) []) [] []:Q1) (LeV.agg (.cons lr (.cons lr (.cons lr (.cons lr (.cons lr (.cons lr (.cons lr (.cons lr (.cons lr (.cons lr (.cons (LeV.nil 2) (.cons (LeV.nil 4) (.cons (LeV.nil 13) .nil)))))))))))))) fun v0=>(kC (sh:=eB) (Q00 x0 v0) fun v1=>(kEr (enc:=eB) v1))) h)
def Um(s:Qg)(u:Unit)(o:(Bool×Bool×Bool)):List Alt:=l1 o .normal (fun x=>[.ptr 0 0 0,.bool (x.1),.bool (x.2.1),.bool (x.2.2)]) (fun _=>[.cells 0 (Qp s).cells])
def YE(s:Qg)(u:(Bool×Bool×Bool))(o:Bool):List Alt:=jb o (fun b=>[.ptr 0 0 0,.bool (u.1),.bool (u.2.1),.bool (u.2.2),.bool b]) [.cells 0 (Qp s).cells]
def V3(s:Qg)(u:(Bool×Bool))(o:Bool):List Alt:=jb o (fun b=>[.ptr 0 0 0,.bool (u.1),.bool (u.2),.bool b]) [.cells 0 (Qp s).cells]
def YF(s:Qg)(u:(Bool×Bool))(o:Bool):List Alt:=jb o (fun b=>[.ptr 0 0 0,.bool (u.1),.bool (u.2),.bool b]) [.cells 0 (Qp s).cells]
def V4(s:Qg)(u:(Bool×Bool))(o:Bool):List Alt:=jb o (fun b=>[.ptr 0 0 0,.bool (u.1),.bool (u.2),.bool b]) [.cells 0 (Qp s).cells]
def V5(s:Qg)(u:(Bool×Bool))(o:Bool):List Alt:=jb o (fun b=>[.ptr 0 0 0,.bool (u.1),.bool (u.2),.bool b]) [.cells 0 (Qp s).cells]
def V6(s:Qg)(u:Bool)(o:Bool):List Alt:=jb o (fun b=>[.ptr 0 0 0,.bool u,.bool b]) [.cells 0 (Qp s).cells]
def D7(x0:Qg):Option Bool:=
 some ()>>=fun v0=>
 (if x0.fOp==2 then
 some ((x0.fOp==1),true,(x0.fOp==4))
 else
 some ((x0.fOp==1),(x0.fOp==3),(x0.fOp==4)))>>=fun v2=>
 some (v2.fst,v2.snd.fst,v2.snd.snd)>>=fun v3=>
 (if v2.fst then
 some false
 else
 if v2.snd.fst then
 some false
 else
 if v2.snd.snd then
 some false
 else
 some true)>>=fun v4=>if v4 then
 some false
 else
 some (v3.fst,v3.snd.fst)>>=fun v7=>
 (if v3.snd.snd then
 if !x0.fa==[] then
 some true
 else
 some false
 else
 some false)>>=fun v8=>if v8 then
 some false
 else
 some (v7.fst,v7.snd)>>=fun a6=>
 (if v7.fst then
 some false
 else
 if x0.fy !=0 then
 some true
 else
 if x0.fB !=0 then
 some true
 else
 some false)>>=fun a8=>if a8 then
 some false
 else
 some (a6.fst,a6.snd)>>=fun a4=>
 (if x0.fOp !=3 then
 if x0.fA !=0 then
 some true
 else
 some false
 else
 some false)>>=fun a9=>if a9 then
 some false
 else
 some (a4.fst,a4.snd)>>=fun a7=>
 (if a4.snd then
 some false
 else
 some (List.length x0.fe:Int)>>=fun ab=>
 if 0<ab then
 some true
 else
 some false)>>=fun aa=>if aa then
 some false
 else
 some a7.snd>>=fun ac=>
 (if a7.fst then
 D6 x0.fg>>=fun ae=>if ae then
 some false
 else
 some true
 else
 some false)>>=fun ad=>if ad then
 some false
 else
 if ac then
 some (List.length x0.fb:Int)>>=fun af=>
 some (af==0)
 else
 some true
theorem RP(x0 r)(h:D7 x0=some r):PU 160 [Qp x0] (eB r):=
 Pu2 (hs:=[(11,.split),(21,.split),(24,.split),(28,.split),(32,.split),(36,.split),(39,.split),(44,.split),(48,.split),(54,.split),(58,.split),(61,.split),(66,.n eI 66 none),(67,.split),(70,.split),(74,.cb),(77,.split),(82,.n eI 82 none),(5000001,.l [] [] [] [1,3,4,5] [kk 1] (Um x0)),(5000002,.l [] [] [] [1,3,4,5,20] [kk 1] (YE x0)),(5000004,.l [] [] [] [1,3,4,31] [kk 1] (V3 x0)),(5000006,.l [] [] [] [1,3,4,38] [kk 1] (YF x0)),(5000008,.l [] [] [] [1,3,4,51] [kk 1] (V4 x0)),(5000010,.l [] [] [] [1,3,4,60] [kk 1] (V5 x0)),(5000012,.l [] [] [] [1,4,69] [kk 1] (V6 x0))]) ((kJ1 (id:=5000001) () (fun v0 ae v1=>(kIf (c:=x0.fOp==2) (kXj (alts:=Um x0) ae ((x0.fOp==1),true,(x0.fOp==4)) (.here _ rfl (.refl _) (.refl _)))
 (kXj (alts:=Um x0) ae ((x0.fOp==1),(x0.fOp==3),(x0.fOp==4)) (.here _ rfl (.refl _) (.refl _)))))
 (fun v0 v2=>(kJb (id:=5000002) (v2.fst,v2.snd.fst,v2.snd.snd) (fun v3 a8 v4=>(kIf (c:=v2.fst) (kXj (alts:=YE x0) a8 false (.next (.here () rfl (.refl _) (.refl _))))
 (kIf (c:=v2.snd.fst) (kXj (alts:=YE x0) a8 false (.next (.here () rfl (.refl _) (.refl _))))
 (kIf (c:=v2.snd.snd) (kXj (alts:=YE x0) a8 false (.next (.here () rfl (.refl _) (.refl _))))
 (kXj (alts:=YE x0) a8 true (.here () rfl (.refl _) (.refl _)))))))
 (fun v3=>(kEr (enc:=eB) false))
 (fun v3=>(kJb (id:=5000004) (v3.fst,v3.snd.fst) (fun v7 ab v8=>(kIf (c:=v3.snd.snd) (kIf (c:= !x0.fa==[]) (kXj (alts:=V3 x0) ab true (.here () rfl (.refl _) (.refl _)))
 (kXj (alts:=V3 x0) ab false (.next (.here () rfl (.refl _) (.refl _)))))
 (kXj (alts:=V3 x0) ab false (.next (.here () rfl (.refl _) (.refl _))))))
 (fun v7=>(kEr (enc:=eB) false))
 (fun v7=>(kJb (id:=5000006) (v7.fst,v7.snd) (fun a9 a3 ak=>(kIf (c:=v7.fst) (kXj (alts:=YF x0) a3 false (.next (.here () rfl (.refl _) (.refl _))))
 (kIf (c:=x0.fy !=0) (kXj (alts:=YF x0) a3 true (.here () rfl (.refl _) (.refl _)))
 (kIf (c:=x0.fB !=0) (kXj (alts:=YF x0) a3 true (.here () rfl (.refl _) (.refl _)))
 (kXj (alts:=YF x0) a3 false (.next (.here () rfl (.refl _) (.refl _))))))))
 (fun a9=>(kEr (enc:=eB) false))
 (fun a9=>(kJb (id:=5000008) (a9.fst,a9.snd) (fun a7 a4 am=>(kIf (c:=x0.fOp !=3) (kIf (c:=x0.fA !=0) (kXj (alts:=V4 x0) a4 true (.here () rfl (.refl _) (.refl _)))
 (kXj (alts:=V4 x0) a4 false (.next (.here () rfl (.refl _) (.refl _)))))
 (kXj (alts:=V4 x0) a4 false (.next (.here () rfl (.refl _) (.refl _))))))
 (fun a7=>(kEr (enc:=eB) false))
 (fun a7=>(kJb (id:=5000010) (a7.fst,a7.snd) (fun aa a5 an=>(kIf (c:=a7.snd) (kXj (alts:=V5 x0) a5 false (.next (.here () rfl (.refl _) (.refl _))))
 (kN _ (mLen (sh:=Q2) x0.fe) fun ah=>(kIfD (p:=0<ah) (kXj (alts:=V5 x0) a5 true (.here () rfl (.refl _) (.refl _)))
 (kXj (alts:=V5 x0) a5 false (.next (.here () rfl (.refl _) (.refl _))))))))
 (fun aa=>(kEr (enc:=eB) false))
 (fun aa=>(kJb (id:=5000012) aa.snd (fun ac a6 ao=>(kIf (c:=aa.fst) (kCb (RO x0.fg) (kXj (alts:=V6 x0) a6 false (.next (.here () rfl (.refl _) (.refl _))))
 (kXj (alts:=V6 x0) a6 true (.here () rfl (.refl _) (.refl _))))
 (kXj (alts:=V6 x0) a6 false (.next (.here () rfl (.refl _) (.refl _))))))
 (fun ac=>(kEr (enc:=eB) false))
 (fun ac=>(kIf (c:=ac) (kN _ (mLen (sh:=Q6) x0.fb) fun ai=>(kEr (enc:=eB) (ai==0)))
 (kEr (enc:=eB) true)))))))))))))))) h)
def Yn(s:Qg)(u:Unit)(o:Bool):List Alt:=jb o (fun b=>[.ptr 0 0 0,.bool b]) [.cells 0 (Qp s).cells]
def ZG(s:Unit)(u:Unit)(o:Bool):List Alt:=jb o (fun b=>[.bool b]) []
def VU(x0:Q3)(x1:Qg):Option Int:=
 Jf x1.fa>>=fun v0=>if v0 then
 YP x0.fi x1.fa>>=fun v1=>
 some ()>>=fun v2=>
 (if v1.snd then
 some true
 else
 ZN x0.fp x1.fa>>=fun v4=>if v4 then
 some true
 else
 some false)>>=fun v3=>if v3 then
 some (8:Int)
 else
 some ()>>=fun v7=>
 (if x1.fy<1 then
 some true
 else
 if 65536<x1.fy then
 some true
 else
 if x1.fB<0 then
 some true
 else
 if 3<x1.fB then
 some true
 else
 some false)>>=fun v8=>if v8 then
 some (1:Int)
 else
 some (0:Int)
 else
 some (7:Int)
theorem LY(x0 x1 r)(h:VU x0 x1=some r):PU 161 [.ip 5 [.agg [.sl 8 (List.map Q4 x0.fi.fc),.sl 20 (List.map Q6 x0.fi.fb),.sl 1 (List.map eS x0.fp),.sl 1 (List.map eS x0.fh),.sl 1 (List.map eI x0.fq)]] 0 0,Qp x1] (eI r):=
 Pu2 (hs:=[(9,.cb),(18,.c QE),(21,.split),(29,.cb),(33,.split),(37,.split),(42,.split),(47,.split),(5000004,.l [] [] [] [3,30] [kk 3] (Yn x1)),(5000006,.l [] [] [] [48] [] (ZG ()))]) ((kCb (CJ x1.fa) (kC (sh:=QE) (Us x0.fi x1.fa) fun v1=>(kJb (id:=5000004) () (fun v2 a4 v3=>(kIf (c:=v1.snd) (kXj (alts:=Yn x1) a4 true (.here () rfl (.refl _) (.refl _)))
 (kCb (Kj x0.fp x1.fa) (kXj (alts:=Yn x1) a4 true (.here () rfl (.refl _) (.refl _)))
 (kXj (alts:=Yn x1) a4 false (.next (.here () rfl (.refl _) (.refl _)))))))
 (fun v2=>(kEr (enc:=eI) (8:Int)))
 (fun v2=>(kJb (id:=5000006) () (fun v7 a3 v8=>(kIfD (p:=x1.fy<1) (kXj (alts:=ZG ()) a3 true (.here () rfl (.refl _) (.refl _)))
 (kIfD (p:=65536<x1.fy) (kXj (alts:=ZG ()) a3 true (.here () rfl (.refl _) (.refl _)))
 (kIfD (p:=x1.fB<0) (kXj (alts:=ZG ()) a3 true (.here () rfl (.refl _) (.refl _)))
 (kIfD (p:=3<x1.fB) (kXj (alts:=ZG ()) a3 true (.here () rfl (.refl _) (.refl _)))
 (kXj (alts:=ZG ()) a3 false (.next (.here () rfl (.refl _) (.refl _)))))))))
 (fun v7=>(kEr (enc:=eI) (1:Int)))
 (fun v7=>(kEr (enc:=eI) (0:Int)))))))
 (kEr (enc:=eI) (7:Int))) h)
def Kh(x0:Q1):Option Bool:=
 if 13≤x0.fOp then
 some (decide (x0.fOp≤18))
 else
 some false
theorem GD(x0 r)(h:Kh x0=some r):PU 163 [Q5 x0] (eB r):=
 Pu2 (hs:=[(5,.split)]) ((kIfD (p:=13≤x0.fOp) (kEr (enc:=eB) (decide (x0.fOp≤18)))
 (kEr (enc:=eB) false)) h)
def Jg(x0:Zh)(x1:Q3):Option Bool:=
 ZN x1.fh x0.fa>>=fun v0=>
 some (!v0)
theorem NV(x0 x1 r)(h:Jg x0 x1=some r):PU 273 [Qk x0,.ip 1 [.agg [.ip 5 [.agg [.sl 8 (List.map Q4 x1.fi.fc),.sl 20 (List.map Q6 x1.fi.fb),.sl 1 (List.map eS x1.fp),.sl 1 (List.map eS x1.fh),.sl 1 (List.map eI x1.fq)]] 0 0]] 0 0] (eB r):=
 Pu2 (hs:=[(10,.c eB)]) ((kC (sh:=eB) (Kj x1.fh x0.fa) fun v0=>(kEr (enc:=eB) (!v0))) h)
def Zs(s:((List Zh)×Q3))(u:Int)(o:Unit ⊕ Int):List Alt:=lp o (.exit 0) (fun _=>[.undef]) (fun _=>[]) .ret (fun x=>[ii x]) (fun _=>[])
def Z6(x0:List Zh)(x1:Q3)(x7:Int)(x8:Int):Option (Unit ⊕ Int):=
 if x8<x7 then
 ix x0 x8>>=fun v0=>
 Jg v0 x1>>=fun v1=>if v1 then
 some (.inr x8)
 else
 Z6 x0 x1 x7 (wr (x8+1))
 else
 some (.inl ())
 partial_fixpoint
theorem CM(x0 x1 x7 x8 o)(h:Z6 x0 x1 x7 x8=some o):LO 338 2 19 [0,1,7,8] [.sl 2 (List.map Qk x0),.fn 273 [.ip 1 [.agg [.ip 5 [.agg [.sl 8 (List.map Q4 x1.fi.fc),.sl 20 (List.map Q6 x1.fi.fb),.sl 1 (List.map eS x1.fp),.sl 1 (List.map eS x1.fh),.sl 1 (List.map eI x1.fq)]] 0 0]] 0 0],ii x7,ii x8] [] [4] (Zs (x0,x1) x7 o):=
 Z6.partial_correctness x0 x1 x7 (fun x8 o=>LO 338 2 19 [0,1,7,8] [.sl 2 (List.map Qk x0),.fn 273 [.ip 1 [.agg [.ip 5 [.agg [.sl 8 (List.map Q4 x1.fi.fc),.sl 20 (List.map Q6 x1.fi.fb),.sl 1 (List.map eS x1.fp),.sl 1 (List.map eS x1.fh),.sl 1 (List.map eI x1.fq)]] 0 0]] 0 0],ii x7,ii x8] [] [4] (Zs (x0,x1) x7 o))
 (fun Z6 Qac x8 o h=>
 Lp2 (hs:=[(9,.split),(14,.e Qk),(16,.cb)]) (kb:=[]) (kbx:=[]) ((kIfD (p:=x8<x7) (kIx (enc:=Qk) (l:=x0) (k:=x8) fun v0=>(kCb (NV v0 x1) (kX (alts:=Zs (x0,x1) x7) (.inr x8) (.next (.here _ rfl (.refl _) (.refl _))))
 (kM0 (alts:=Zs (x0,x1) x7) (Qac (wr (x8+1))))))
 (kX (alts:=Zs (x0,x1) x7) (.inl ()) (.here _ rfl (.refl _) (.refl _)))) h)) x8 o h
def Vc(x0:List Zh)(x1:Q3):Option Int:=
 some (List.length x0:Int)>>=fun v0=>
 some v0>>=fun v1=>
 Z6 x0 x1 v0 0>>=fun v2=>(match v2 with
 | (.inl v3)=>
 some (-1:Int)
 | (.inr v4)=>
 some v4)
theorem WV(x0 x1 r)(h:Vc x0 x1=some r):PU 338 [N5 x0,.fn 273 [.ip 1 [.agg [.ip 5 [.agg [.sl 8 (List.map Q4 x1.fi.fc),.sl 20 (List.map Q6 x1.fi.fb),.sl 1 (List.map eS x1.fp),.sl 1 (List.map eS x1.fh),.sl 1 (List.map eI x1.fq)]] 0 0]] 0 0]] (eI r):=
 Pu2 (hs:=[(7,.n eI 7 none),(3000003,.l [] [0,1,7,8] [] [4] [] (Zs (x0,x1)))]) ((kN _ (mLen (sh:=Qk) x0) fun v0=>(kL2 v0 (hL:=(CM x0 x1 v0 0)) (hA:=fun v1 v3=>(kEr (enc:=eI) (-1:Int)))
 (hB:=fun v1 v4=>(kEr (enc:=eI) v4)))) h)
def XJ(x0:List Zh)(x1:Q3):Option Bool:=
 Vc x0 x1>>=fun v0=>
 some (decide (0≤v0))
theorem CL(x0 x1 r)(h:XJ x0 x1=some r):PU 272 [N5 x0,.fn 273 [.ip 1 [.agg [.ip 5 [.agg [.sl 8 (List.map Q4 x1.fi.fc),.sl 20 (List.map Q6 x1.fi.fb),.sl 1 (List.map eS x1.fp),.sl 1 (List.map eS x1.fh),.sl 1 (List.map eI x1.fq)]] 0 0]] 0 0]] (eB r):=
 Pu2 (hs:=[(7,.c eI)]) ((kC (sh:=eI) (WV x0 x1) fun v0=>(kEr (enc:=eB) (decide (0≤v0)))) h)
def Xk(x0:Q3)(x1:gLin):Option Bool:=
 XJ x1.fL x0>>=fun v0=>
 some (!v0)
theorem Up(x0 x1 r)(h:Xk x0 x1=some r):PU 223 [.ip 5 [.agg [.sl 8 (List.map Q4 x0.fi.fc),.sl 20 (List.map Q6 x0.fi.fb),.sl 1 (List.map eS x0.fp),.sl 1 (List.map eS x0.fh),.sl 1 (List.map eI x0.fq)]] 0 0,Qe x1] (eB r):=
 Pu2 (hs:=[(7,.z [{slot:=2,fz:=true}] none),(8,.c eB),(3,.z [{slot:=2,fz:=true}] none)]) ((kC (sh:=eB) (CL x1.fL x0) fun v0=>(kEr (enc:=eB) (!v0))) h)
def UD(x0:gLin)(x1:Q3):Option Bool:=
 Xk x1 x0>>=fun v0=>
 some (!v0)
theorem L0(x0 x1 r)(h:UD x0 x1=some r):PU 225 [Qe x0,.ip 1 [.agg [.ip 5 [.agg [.sl 8 (List.map Q4 x1.fi.fc),.sl 20 (List.map Q6 x1.fi.fb),.sl 1 (List.map eS x1.fp),.sl 1 (List.map eS x1.fh),.sl 1 (List.map eI x1.fq)]] 0 0]] 0 0] (eB r):=
 Pu2 (hs:=[(6,.c eB)]) ((kC (sh:=eB) (Up x1 x0) fun v0=>(kEr (enc:=eB) (!v0))) h)
def Zx(s:((List gLin)×Q3))(u:Int)(o:Unit ⊕ Int):List Alt:=lp o (.exit 0) (fun _=>[.undef]) (fun _=>[]) .ret (fun x=>[ii x]) (fun _=>[])
def Z9(x0:List gLin)(x1:Q3)(x7:Int)(x8:Int):Option (Unit ⊕ Int):=
 if x8<x7 then
 ix x0 x8>>=fun v0=>
 UD v0 x1>>=fun v1=>if v1 then
 some (.inr x8)
 else
 Z9 x0 x1 x7 (wr (x8+1))
 else
 some (.inl ())
 partial_fixpoint
theorem Wb(x0 x1 x7 x8 o)(h:Z9 x0 x1 x7 x8=some o):LO 274 2 19 [0,1,7,8] [.sl 2 (List.map Qe x0),.fn 225 [.ip 1 [.agg [.ip 5 [.agg [.sl 8 (List.map Q4 x1.fi.fc),.sl 20 (List.map Q6 x1.fi.fb),.sl 1 (List.map eS x1.fp),.sl 1 (List.map eS x1.fh),.sl 1 (List.map eI x1.fq)]] 0 0]] 0 0],ii x7,ii x8] [] [4] (Zx (x0,x1) x7 o):=
 Z9.partial_correctness x0 x1 x7 (fun x8 o=>LO 274 2 19 [0,1,7,8] [.sl 2 (List.map Qe x0),.fn 225 [.ip 1 [.agg [.ip 5 [.agg [.sl 8 (List.map Q4 x1.fi.fc),.sl 20 (List.map Q6 x1.fi.fb),.sl 1 (List.map eS x1.fp),.sl 1 (List.map eS x1.fh),.sl 1 (List.map eI x1.fq)]] 0 0]] 0 0],ii x7,ii x8] [] [4] (Zx (x0,x1) x7 o))
 (fun Z9 Qab x8 o h=>
 Lp2 (hs:=[(9,.split),(14,.e Qe),(16,.cb)]) (kb:=[]) (kbx:=[]) ((kIfD (p:=x8<x7) (kIx (enc:=Qe) (l:=x0) (k:=x8) fun v0=>(kCb (L0 v0 x1) (kX (alts:=Zx (x0,x1) x7) (.inr x8) (.next (.here _ rfl (.refl _) (.refl _))))
 (kM0 (alts:=Zx (x0,x1) x7) (Qab (wr (x8+1))))))
 (kX (alts:=Zx (x0,x1) x7) (.inl ()) (.here _ rfl (.refl _) (.refl _)))) h)) x8 o h
def Vo(x0:List gLin)(x1:Q3):Option Int:=
 some (List.length x0:Int)>>=fun v0=>
 some v0>>=fun v1=>
 Z9 x0 x1 v0 0>>=fun v2=>(match v2 with
 | (.inl v3)=>
 some (-1:Int)
 | (.inr v4)=>
 some v4)
theorem Nb(x0 x1 r)(h:Vo x0 x1=some r):PU 274 [GI x0,.fn 225 [.ip 1 [.agg [.ip 5 [.agg [.sl 8 (List.map Q4 x1.fi.fc),.sl 20 (List.map Q6 x1.fi.fb),.sl 1 (List.map eS x1.fp),.sl 1 (List.map eS x1.fh),.sl 1 (List.map eI x1.fq)]] 0 0]] 0 0]] (eI r):=
 Pu2 (hs:=[(7,.n eI 7 none),(3000003,.l [] [0,1,7,8] [] [4] [] (Zx (x0,x1)))]) ((kN _ (mLen (sh:=Qe) x0) fun v0=>(kL2 v0 (hL:=(Wb x0 x1 v0 0)) (hA:=fun v1 v3=>(kEr (enc:=eI) (-1:Int)))
 (hB:=fun v1 v4=>(kEr (enc:=eI) v4)))) h)
def XY(x0:List gLin)(x1:Q3):Option Bool:=
 Vo x0 x1>>=fun v0=>
 some (decide (0≤v0))
theorem W9(x0 x1 r)(h:XY x0 x1=some r):PU 224 [GI x0,.fn 225 [.ip 1 [.agg [.ip 5 [.agg [.sl 8 (List.map Q4 x1.fi.fc),.sl 20 (List.map Q6 x1.fi.fb),.sl 1 (List.map eS x1.fp),.sl 1 (List.map eS x1.fh),.sl 1 (List.map eI x1.fq)]] 0 0]] 0 0]] (eB r):=
 Pu2 (hs:=[(7,.c eI)]) ((kC (sh:=eI) (Nb x0 x1) fun v0=>(kEr (enc:=eB) (decide (0≤v0)))) h)
def Za(s:Q3)(u:((List Q7)×Int))(o:Unit ⊕ Int):List Alt:=lp o (.exit 2) (fun _=>[.undef]) (fun _=>[]) .ret (fun x=>[ii x]) (fun _=>[])
def QN(x2:Q3)(a4:List Q7)(a5:Int)(a3:Int):Option (Unit ⊕ Int):=
 if a3<a5 then
 ix a4 a3>>=fun v0=>
 if v0.fu==[] then
 QN x2 a4 a5 (wr (a3+1))
 else
 YP x2.fi v0.fu>>=fun v1=>
 if v1.snd then
 if v1.fst.fd.fk !=3 then
 some (.inr (10:Int))
 else
 some (List.length v1.fst.fC:Int)>>=fun v2=>
 some (List.length v0.fAt:Int)>>=fun v3=>
 if v2 !=v3 then
 some (.inr (11:Int))
 else
 QN x2 a4 a5 (wr (a3+1))
 else
 some (.inr (9:Int))
 else
 some (.inl ())
 partial_fixpoint
theorem Mr(x2 x64 x65 a3 o)(h:QN x2 x64 x65 a3=some o):LO 194 17 100 [2,64,65,66] [.ip 1 [.agg [.ip 5 [.agg [.sl 8 (List.map Q4 x2.fi.fc),.sl 20 (List.map Q6 x2.fi.fb),.sl 1 (List.map eS x2.fp),.sl 1 (List.map eS x2.fh),.sl 1 (List.map eI x2.fq)]] 0 0]] 0 0,.sl 4 (List.map Q2 x64),ii x65,ii a3] [] [4] (Za x2 (x64,x65) o):=
 QN.partial_correctness x2 x64 x65 (fun a3 o=>LO 194 17 100 [2,64,65,66] [.ip 1 [.agg [.ip 5 [.agg [.sl 8 (List.map Q4 x2.fi.fc),.sl 20 (List.map Q6 x2.fi.fb),.sl 1 (List.map eS x2.fp),.sl 1 (List.map eS x2.fh),.sl 1 (List.map eI x2.fq)]] 0 0]] 0 0,.sl 4 (List.map Q2 x64),ii x65,ii a3] [] [4] (Za x2 (x64,x65) o))
 (fun QN Q83 a3 o h=>
 Lp2 (hs:=[(67,.split),(68,.e Q2),(72,.split),(80,.c QE),(84,.split),(90,.split),(94,.n eI 94 none),(97,.n eI 97 none),(98,.split)]) (kb:=[]) (kbx:=[]) ((kIfD (p:=a3<x65) (kIx (enc:=Q2) (l:=x64) (k:=a3) fun v0=>(kIf (c:=v0.fu==[]) (kM0 (alts:=Za x2 (x64,x65)) (Q83 (wr (a3+1))))
 (kC (sh:=QE) (Us x2.fi v0.fu) fun v1=>(kIf (c:=v1.snd) (kIf (c:=v1.fst.fd.fk !=3) (kX (alts:=Za x2 (x64,x65)) (.inr (10:Int)) (.next (.here _ rfl (.refl _) (.refl _))))
 (kN _ (mLen (sh:=eI) v1.fst.fC) fun v2=>(kN _ (mLen (sh:=Qe) v0.fAt) fun v3=>(kIf (c:=v2 !=v3) (kX (alts:=Za x2 (x64,x65)) (.inr (11:Int)) (.next (.here _ rfl (.refl _) (.refl _))))
 (kM0 (alts:=Za x2 (x64,x65)) (Q83 (wr (a3+1))))))))
 (kX (alts:=Za x2 (x64,x65)) (.inr (9:Int)) (.next (.here _ rfl (.refl _) (.refl _))))))))
 (kX (alts:=Za x2 (x64,x65)) (.inl ()) (.here _ rfl (.refl _) (.refl _)))) h)) a3 o h
def ZQ(s:(Q3×Q1))(u:((List Q7)×Int))(o:Bool):List Alt:=l1 o (.exit 0) (fun x=>[.ip 1 [.agg [.ip 5 [.agg [.sl 8 (List.map Q4 s.1.fi.fc),.sl 20 (List.map Q6 s.1.fi.fb),.sl 1 (List.map eS s.1.fp),.sl 1 (List.map eS s.1.fh),.sl 1 (List.map eI s.1.fq)]] 0 0]] 0 0,.ptr 0 0 0,.bool x]) (fun _=>[.cells 0 (Q5 s.2).cells])
def QG(x2:Q3)(x5:Bool)(a4:List Q7)(a5:Int)(a3:Int):Option Bool:=
 if a3<a5 then
 ix a4 a3>>=fun v0=>
 if x5 then
 Xk x2 v0.fj>>=fun v1=>if v1 then
 XY v0.fAt x2>>=fun v2=>
 QG x2 (!v2) a4 a5 (wr (a3+1))
 else
 QG x2 false a4 a5 (wr (a3+1))
 else
 QG x2 false a4 a5 (wr (a3+1))
 else
 some x5
 partial_fixpoint
theorem MR(x2:Q3)(x3:Q1)(x5:Bool)(a3:List Q7)(a4:Int)(a5:Int)(o:Bool)(h:QG x2 x5 a3 a4 a5=some o):LO 194 3 100 [2,3,5,18,19,20] [.ip 1 [.agg [.ip 5 [.agg [.sl 8 (List.map Q4 x2.fi.fc),.sl 20 (List.map Q6 x2.fi.fb),.sl 1 (List.map eS x2.fp),.sl 1 (List.map eS x2.fh),.sl 1 (List.map eI x2.fq)]] 0 0]] 0 0,.ptr 0 0 0,.bool x5,.sl 4 (List.map Q2 a3),ii a4,ii a5] [.cells 0 (Q5 x3).cells] [2,3,5] (ZQ (x2,x3) (a3,a4) o):=
 QG.partial_correctness x2 a3 a4 (fun x5 a5 o=>∀(x3:Q1),LO 194 3 100 [2,3,5,18,19,20] [.ip 1 [.agg [.ip 5 [.agg [.sl 8 (List.map Q4 x2.fi.fc),.sl 20 (List.map Q6 x2.fi.fb),.sl 1 (List.map eS x2.fp),.sl 1 (List.map eS x2.fh),.sl 1 (List.map eI x2.fq)]] 0 0]] 0 0,.ptr 0 0 0,.bool x5,.sl 4 (List.map Q2 a3),ii a4,ii a5] [.cells 0 (Q5 x3).cells] [2,3,5] (ZQ (x2,x3) (a3,a4) o))
 (fun QG Q84 x5 a5 o h x3=>
 Lp2 (hs:=[(21,.split),(22,.e Q2),(24,.split),(29,.cb),(34,.z [{slot:=2,fz:=true}] none),(35,.c eB)]) (kb:=[kk 3]) (kbx:=[kk 3]) ((kIfD (p:=a5<a4) (kIx (enc:=Q2) (l:=a3) (k:=a5) fun v0=>(kIf (c:=x5) (kCb (Up x2 v0.fj) (kC (sh:=eB) (W9 v0.fAt x2) fun v2=>(kM0 (alts:=ZQ (x2,x3) (a3,a4)) (fun y hy=>Q84 (!v2) (wr (a5+1)) y hy x3)))
 (kM0 (alts:=ZQ (x2,x3) (a3,a4)) (fun y hy=>Q84 false (wr (a5+1)) y hy x3)))
 (kM0 (alts:=ZQ (x2,x3) (a3,a4)) (fun y hy=>Q84 false (wr (a5+1)) y hy x3))))
 (kX (alts:=ZQ (x2,x3) (a3,a4)) x5 (.here _ rfl (.refl _) (.refl _)))) h)) x5 a5 o h x3
def VV(x0:Q3)(x1:Q1):Option Int:=
 Xk x0 x1.fj>>=fun v0=>
 some (List.length x1.fe:Int)>>=fun v1=>
 some (x1.fe,v1)>>=fun v2=>
 QG x0 v0 x1.fe v1 0>>=fun v4=>
 if v4 then
 if x1.fOp !=3 then
 some (0:Int)
 else
 YP x0.fi x1.fa>>=fun v5=>
 if v5.snd then
 some (List.length v5.fst.fC:Int)>>=fun v6=>
 some (List.length x1.fe:Int)>>=fun v7=>
 if v6 !=v7 then
 some (11:Int)
 else
 some (List.length x1.fe:Int)>>=fun v8=>
 some (x1.fe,v8)>>=fun v9=>
 QN x0 x1.fe v8 0>>=fun a5=>(match a5 with
 | (.inl v11)=>
 some (0:Int)
 | (.inr v12)=>
 some v12)
 else
 some (9:Int)
 else
 some (9:Int)
theorem LZ(x0 x1 r)(h:VV x0 x1=some r):PU 194 [.ip 5 [.agg [.sl 8 (List.map Q4 x0.fi.fc),.sl 20 (List.map Q6 x0.fi.fb),.sl 1 (List.map eS x0.fp),.sl 1 (List.map eS x0.fh),.sl 1 (List.map eI x0.fq)]] 0 0,Q5 x1] (eI r):=
 Pu2 (hs:=[(16,.c eB),(19,.n eI 19 none),(39,.split),(43,.split),(51,.c QE),(54,.split),(58,.n eI 58 none),(61,.n eI 61 none),(62,.split),(65,.n eI 65 none),(3,.z [{slot:=2,fz:=true}] none),(3000018,.l [] [2,64,65,66] [] [4] [] (Za x0)),(3000004,.l [] [2,3,5,18,19,20] [kk 3] [2,3,5] [kk 3] (ZQ (x0,x1)))]) ((kC (sh:=eB) (Up x0 x1.fj) fun v0=>(kN _ (mLen (sh:=Q2) x1.fe) fun v1=>(kL1 (x1.fe,v1) (MR x0 x1 v0 x1.fe v1 0) fun v2 v4=>(kIf (c:=v4) (kIf (c:=x1.fOp !=3) (kEr (enc:=eI) (0:Int))
 (kC (sh:=QE) (Us x0.fi x1.fa) fun v5=>(kIf (c:=v5.snd) (kN _ (mLen (sh:=eI) v5.fst.fC) fun v6=>(kN _ (mLen (sh:=Q2) x1.fe) fun v7=>(kIf (c:=v6 !=v7) (kEr (enc:=eI) (11:Int))
 (kN _ (mLen (sh:=Q2) x1.fe) fun v8=>(kL2 (x1.fe,v8) (hL:=(Mr x0 x1.fe v8 0)) (hA:=fun v9 a8=>(kEr (enc:=eI) (0:Int)))
 (hB:=fun v9 a3=>(kEr (enc:=eI) a3)))))))
 (kEr (enc:=eI) (9:Int)))))
 (kEr (enc:=eI) (9:Int)))))) h)
def X9(s:(Q3×Q1))(u:((List Qa)×Int))(o:(Qc× (List Qc)) ⊕ (Qc×Int)):List Alt:=lp o (.exit 0) (fun x=>[.ip 5 [.agg [.sl 8 (List.map Q4 s.1.fi.fc),.sl 20 (List.map Q6 s.1.fi.fb),.sl 1 (List.map eS s.1.fp),.sl 1 (List.map eS s.1.fh),.sl 1 (List.map eI s.1.fq)]] 0 0,.ptr 0 0 0,.ptr 1 0 0,.undef,.sl 5 (List.map Qf x.2)]) (fun x=>[.cells 0 (Q5 s.2).cells,.cells 0 (Qf x.1).cells]) .ret (fun x=>[.ip 5 [.agg [.sl 8 (List.map Q4 s.1.fi.fc),.sl 20 (List.map Q6 s.1.fi.fb),.sl 1 (List.map eS s.1.fp),.sl 1 (List.map eS s.1.fh),.sl 1 (List.map eI s.1.fq)]] 0 0,.ptr 0 0 0,.ptr 1 0 0,ii x.2,.undef]) (fun x=>[.cells 0 (Q5 s.2).cells,.cells 0 (Qf x.1).cells])
def XQ(s:(Q3×Q1))(u:(Qc× (List Qc)×Int))(o:Bool):List Alt:=jb o (fun b=>[.ip 5 [.agg [.sl 8 (List.map Q4 (s.1).fi.fc),.sl 20 (List.map Q6 (s.1).fi.fb),.sl 1 (List.map eS (s.1).fp),.sl 1 (List.map eS (s.1).fh),.sl 1 (List.map eI (s.1).fq)]] 0 0,.ptr 0 0 0,.ptr 1 0 0,.sl 5 (List.map Qf (u.2.1)),ii (u.2.2),.bool b]) [.cells 0 (Q5 (s.2)).cells,.cells 0 (Qf (u.1)).cells]
def ZT(s:Q1)(u:(Qc× (List Qc)))(o:Bool):List Alt:=jb o (fun b=>[.ptr 0 0 0,.ptr 1 0 0,.sl 5 (List.map Qf (u.2)),.bool b]) [.cells 0 (Q5 s).cells,.cells 0 (Qf (u.1)).cells]
mutual
def Zq(x0:Q3)(x1:Q1):Option (Qc×Int):=
 some (List.length x1.ff:Int)>>=fun v0=>
 some (x1.ff,v0)>>=fun v1=>
 Z5 x0 (Qc.mk (0:Int) (0:Int) (0:Int) (0:Int) (0:Int)) [] x1.ff v0 (0:Int)>>=fun v2=>(match v2 with
 | (.inl v3)=>
 some (v3.fst,v3.snd,x1.fOp)>>=fun v4=>
 (if x1.fOp==1 then
 some true
 else
 if x1.fOp==12 then
 some true
 else
 some false)>>=fun v5=>if v5 then
 some (x1.fd,(0:Int))
 else
 if v4.snd.snd==2 then
 some ((Qc.mk (3:Int) (0:Int) (0:Int) (0:Int) (0:Int)))>>=fun v8=>
 some (v8,(0:Int))
 else
 if v4.snd.snd==3 then
 YP x0.fi x1.fa>>=fun v9=>
 some (v9.fst.fd,(0:Int))
 else
 if v4.snd.snd==8 then
 ix v4.snd.fst (0:Int)>>=fun a8=>
 some (a8,(0:Int))
 else
 some (v4.fst,v4.snd.fst)>>=fun a3=>
 (if v4.snd.snd==16 then
 some true
 else
 if v4.snd.snd==17 then
 some true
 else
 if v4.snd.snd==18 then
 some true
 else
 some false)>>=fun a9=>if a9 then
 some ((Qc.mk (0:Int) (0:Int) (0:Int) (0:Int) (0:Int)))>>=fun aa=>
 some (aa,(0:Int))
 else
 ix a3.snd (wr ((↑(List.map Qf a3.snd).length:Int) - (2:Int)))>>=fun a4=>
 ix a3.snd (wr ((↑(List.map Qf a3.snd).length:Int) - (1:Int)))>>=fun a5=>
 some (List.length a3.snd:Int)>>=fun ai=>
 some (List.length a3.snd:Int)>>=fun aj=>
 if !(a4.fk==a5.fk&& (a4.fm==a5.fm&& (a4.fv==a5.fv&& (a4.fo==a5.fo&& (a4.fw==a5.fw&&true))))) then
 some ((Qc.mk (0:Int) (0:Int) (0:Int) (0:Int) (0:Int)))>>=fun ab=>
 some (ab,(10:Int))
 else
 Kh x1>>=fun ac=>if ac then
 some ((Qc.mk (0:Int) (0:Int) (0:Int) (0:Int) (0:Int)))>>=fun ad=>
 some (ad,(0:Int))
 else
 some (List.length a3.snd:Int)>>=fun ae=>
 ix a3.snd (wr (ae - (1:Int)))>>=fun af=>
 some (af,(0:Int))
 | (.inr v25)=>
 some (v25.fst,v25.snd))
 partial_fixpoint
def Z5(x0:Q3)(x4:Qc)(x6:List Qc)(a4:List Qa)(a5:Int)(a3:Int):Option ((Qc× (List Qc)) ⊕ (Qc×Int)):=
 if a3<a5 then
 Option.map Qa.f (ix a4 a3)>>=fun v0=>
 Zq x0 v0>>=fun v1=>
 if v1.snd !=0 then
 some (.inr (v1.fst,v1.snd))
 else
 if(x6.length+(1:Nat))*(40:Nat)≤(140737488355328:Nat)∧x6.length+(1:Nat)≤(9223372036854775807:Nat) then
 some (x6++[v1.fst])>>=fun v2=>
 Z5 x0 x4 v2 a4 a5 (wr (a3+1))
 else none
 else
 some (.inl (x4,x6))
 partial_fixpoint
end
theorem MO(x0:Q3):(∀(x1:Q1) (r:(Qc×Int)),Zq x0 x1=some r→PU 195 [.ip 5 [.agg [.sl 8 (List.map Q4 x0.fi.fc),.sl 20 (List.map Q6 x0.fi.fb),.sl 1 (List.map eS x0.fp),.sl 1 (List.map eS x0.fh),.sl 1 (List.map eI x0.fq)]] 0 0,Q5 x1] (Qm r))∧(∀(x4:Qc) (x6:List Qc) (a6:List Qa) (a7:Int) (aa:Int) (o:(Qc× (List Qc)) ⊕ (Qc×Int)),Z5 x0 x4 x6 a6 a7 aa=some o→∀(x3:Q1),LO 195 3 92 [0,3,4,6,14,15,16] [.ip 5 [.agg [.sl 8 (List.map Q4 x0.fi.fc),.sl 20 (List.map Q6 x0.fi.fb),.sl 1 (List.map eS x0.fp),.sl 1 (List.map eS x0.fh),.sl 1 (List.map eI x0.fq)]] 0 0,.ptr 0 0 0,.ptr 1 0 0,.ow 2 0 5 (List.length x6),.sl 13 (List.map Qi a6),ii a7,ii aa] [.cells 0 (Q5 x3).cells,.cells 0 (Qf x4).cells,.own 0 5 (List.map Qf x6)] [0,3,4,5,6] (X9 (x0,x3) (a6,a7) o)):=
 Zq.mutual_partial_correctness x0 _ _
 (fun Z5 Q88 x1 r h=>
 Pu2 (hs:=[(15,.n eI 15 none),(37,.split),(37,.split),(43,.split),(44,.n Qf 44 none),(46,.split),(54,.c QE),(60,.split),(62,.e Qf),(64,.split),(64,.split),(64,.split),(68,.n Qf 68 none),(71,.n eI 71 none),(73,.e Qf),(77,.n eI 77 none),(79,.e Qf),(81,.split),(82,.n Qf 82 none),(84,.cb),(85,.n Qf 85 none),(88,.n eI 88 none),(90,.e Qf),(3000004,.l [] [0,3,4,6,14,15,16] [kk 3,kk 4,{slot:=6,own:=5}] [0,3,4,5,6] [kk 3,kk 4,{slot:=6,fz:=true}] (X9 (x0,x1))),(6000013,.l [] [] [] [0,3,4,6,36,37] [kk 3,kk 4,{slot:=6,fz:=true}] (XQ (x0,x1))),(6000023,.l [] [] [] [3,4,6,64] [kk 3,kk 4,{slot:=6,fz:=true}] (ZT x1))]) ((kN _ (mLen (sh:=Qi) x1.ff) fun v0=>(kL2 (x1.ff,v0) (hL:=(fun y hy=>Q88 (Qc.mk (0:Int) (0:Int) (0:Int) (0:Int) (0:Int)) [] x1.ff v0 (0:Int) y hy x1)) (hA:=fun v1 v3=>(kJb (id:=6000013) (v3.fst,v3.snd,x1.fOp) (fun v4 af v5=>(kIf (c:=x1.fOp==1) (kXj (alts:=XQ (x0,x1)) af true (.here () rfl (.refl _) (.refl _)))
 (kIf (c:=x1.fOp==12) (kXj (alts:=XQ (x0,x1)) af true (.here () rfl (.refl _) (.refl _)))
 (kXj (alts:=XQ (x0,x1)) af false (.next (.here () rfl (.refl _) (.refl _)))))))
 (fun v4=>(kEr (enc:=Qm) (x1.fd,(0:Int))))
 (fun v4=>(kIf (c:=v4.snd.snd==2) (kW (sh:=Qf) (Qc.mk (3:Int) (0:Int) (0:Int) (0:Int) (0:Int)) lr fun v8=>(kEr (enc:=Qm) (v8,(0:Int))))
 (kIf (c:=v4.snd.snd==3) (kC (sh:=QE) (Us x0.fi x1.fa) fun v9=>(kEr (enc:=Qm) (v9.fst.fd,(0:Int))))
 (kIf (c:=v4.snd.snd==8) (kIx (enc:=Qf) (l:=v4.snd.fst) (k:=(0:Int)) fun am=>(kEr (enc:=Qm) (am,(0:Int))))
 (kJb (id:=6000023) (v4.fst,v4.snd.fst) (fun a5 a8 aw=>(kIf (c:=v4.snd.snd==16) (kXj (alts:=ZT x1) a8 true (.here () rfl (.refl _) (.refl _)))
 (kIf (c:=v4.snd.snd==17) (kXj (alts:=ZT x1) a8 true (.here () rfl (.refl _) (.refl _)))
 (kIf (c:=v4.snd.snd==18) (kXj (alts:=ZT x1) a8 true (.here () rfl (.refl _) (.refl _)))
 (kXj (alts:=ZT x1) a8 false (.next (.here () rfl (.refl _) (.refl _))))))))
 (fun a5=>(kW (sh:=Qf) (Qc.mk (0:Int) (0:Int) (0:Int) (0:Int) (0:Int)) lr fun an=>(kEr (enc:=Qm) (an,(0:Int)))))
 (fun a5=>(kIx (enc:=Qf) (l:=a5.snd) (k:=wr ((↑(List.map Qf a5.snd).length:Int) - (2:Int))) fun ab=>(kIx (enc:=Qf) (l:=a5.snd) (k:=wr ((↑(List.map Qf a5.snd).length:Int) - (1:Int))) fun ac=>(kN _ (mLen (sh:=Qf) a5.snd) fun ax=>(kN _ (mLen (sh:=Qf) a5.snd) fun ay=>(kIf (c:= !(ab.fk==ac.fk&& (ab.fm==ac.fm&& (ab.fv==ac.fv&& (ab.fo==ac.fo&& (ab.fw==ac.fw&&true)))))) (kW (sh:=Qf) (Qc.mk (0:Int) (0:Int) (0:Int) (0:Int) (0:Int)) lr fun ao=>(kEr (enc:=Qm) (ao,(10:Int))))
 (kCb (GD x1) (kW (sh:=Qf) (Qc.mk (0:Int) (0:Int) (0:Int) (0:Int) (0:Int)) lr fun ap=>(kEr (enc:=Qm) (ap,(0:Int))))
 (kN _ (mLen (sh:=Qf) a5.snd) fun aq=>(kIx (enc:=Qf) (l:=a5.snd) (k:=wr (aq - (1:Int))) fun ar=>(kEr (enc:=Qm) (ar,(0:Int)))))))))))))))))))
 (hB:=fun v1 ah=>(kEr (enc:=Qm) (ah.fst,ah.snd))))) h))
 (fun Zq Z5 Q87 Q88 x4 x6 a6 a7 aa o h x3=>
 Lp2 (hs:=[(17,.split),(18,.e Q5),(23,.c Qm),(27,.split),(33,.z [{slot:=30,own:=5}] (some (.n Qf 33 (some .a))))]) (kb:=[kk 3,kk 4,{slot:=6,own:=5}]) (kbx:=[kk 3,kk 4,{slot:=6,fz:=true}]) ((kIfD (p:=aa<a7) (kIxR (l:=a6) (k:=aa) XH fun v0=>(kC (sh:=Qm) (Q87 v0) fun v1=>(kIf (c:=v1.snd !=0) (kT (nM (sh:=Qf) x6) (kX (alts:=X9 (x0,x3) (a6,a7)) (.inr (v1.fst,v1.snd)) (.next (.here _ rfl (.cons lr (.cons lr (.cons lr (.cons lr (.cons (LeV.undef (AV.sl (5:Nat) (List.map Qf x6))) .nil))))) (.refl _)))))
 (kA (q:=(x6.length+(1:Nat))*(40:Nat)≤(140737488355328:Nat)∧x6.length+(1:Nat)≤(9223372036854775807:Nat)) (sh:=Qf) (l:=x6) (kO (sh:=Qf) (x6++[v1.fst]) (mA (sh:=Qf) x6 v1.fst) (nA x6 v1.fst) fun v2=>(kM0 (alts:=X9 (x0,x3) (a6,a7)) (fun y hy=>Q88 x4 v2 a6 a7 (wr (aa+1)) y hy x3)))))))
 (kT (nM (sh:=Qf) x6) (kX (alts:=X9 (x0,x3) (a6,a7)) (.inl (x4,x6)) (.here _ rfl (.refl _) (.refl _))))) h))
theorem L1(x0 x1 r)(h:Zq x0 x1=some r):PU 195 [.ip 5 [.agg [.sl 8 (List.map Q4 x0.fi.fc),.sl 20 (List.map Q6 x0.fi.fb),.sl 1 (List.map eS x0.fp),.sl 1 (List.map eS x0.fh),.sl 1 (List.map eI x0.fq)]] 0 0,Q5 x1] (Qm r):=(MO x0).1 x1 r h
def Gu(s:Int)(u:((List Qa)×Int))(o:Int):List Alt:=l1 o (.exit 0) (fun x=>[ii x]) (fun _=>[])
mutual
def JN(x0:Q1)(x1:Int):Option Int:=
 if x1≤1 then
 some x1
 else
 some (List.length x0.ff:Int)>>=fun v0=>
 some (x0.ff,v0)>>=fun v1=>
 YY x1 1 x0.ff v0 0>>=fun v3=>
 some v3
 partial_fixpoint
def YY(x1:Int)(x5:Int)(a4:List Qa)(a5:Int)(a3:Int):Option Int:=
 if a3<a5 then
 Option.map Qa.f (ix a4 a3)>>=fun v0=>
 JN v0 (wr (x1 - (1:Int)))>>=fun v1=>
 YY x1 (if true=true then max x5 (wr ((1:Int)+v1)) else min x5 (wr ((1:Int)+v1))) a4 a5 (wr (a3+1))
 else
 some x5
 partial_fixpoint
end
theorem FF:(∀(x0:Q1) (x1:Int) (r:Int),JN x0 x1=some r→PU 228 [Q5 x0,eI x1] (eI r))∧(∀(x1:Int) (x5:Int) (a3:List Qa) (a4:Int) (a6:Int) (o:Int),YY x1 x5 a3 a4 a6=some o→LO 228 5 27 [1,5,12,13,14] [ii x1,ii x5,.sl 13 (List.map Qi a3),ii a4,ii a6] [] [5] (Gu x1 (a3,a4) o)):=
 JN.mutual_partial_correctness _ _
 (fun YY Q7u x0 x1 r h=>
 Pu2 (hs:=[(9,.split),(13,.n eI 13 none),(3000006,.l [] [1,5,12,13,14] [] [5] [] (Gu x1))]) ((kIfD (p:=x1≤1) (kEr (enc:=eI) x1)
 (kN _ (mLen (sh:=Qi) x0.ff) fun v0=>(kL1 (x0.ff,v0) (Q7u x1 1 x0.ff v0 0) fun v1 v3=>(kEr (enc:=eI) v3)))) h))
 (fun JN YY Q7t Q7u x1 x5 a3 a4 a6 o h=>
 Lp2 (hs:=[(15,.split),(16,.e Q5),(22,.c eI)]) (kb:=[]) (kbx:=[]) ((kIfD (p:=a6<a4) (kIxR (l:=a3) (k:=a6) XH fun v0=>(kC (sh:=eI) (Q7t v0 (wr (x1 - (1:Int)))) fun v1=>(kM0 (alts:=Gu x1 (a3,a4)) (Q7u x1 (if true=true then max x5 (wr ((1:Int)+v1)) else min x5 (wr ((1:Int)+v1))) a3 a4 (wr (a6+1))))))
 (kX (alts:=Gu x1 (a3,a4)) x5 (.here _ rfl (.refl _) (.refl _)))) h))
theorem PR(x0 x1 r)(h:JN x0 x1=some r):PU 228 [Q5 x0,eI x1] (eI r):=(FF).1 x0 x1 r h
def Ls(x0:Q1):Option Int:=
 JN x0 41>>=fun v0=>
 some v0
theorem PQ(x0 r)(h:Ls x0=some r):PU 198 [Q5 x0] (eI r):=
 Pu2 (hs:=[(4,.c eI)]) ((kC (sh:=eI) (PR x0 41) fun v0=>(kEr (enc:=eI) v0)) h)
def DG(x0:gLin):Option Bool:=
 if x0.fK==0 then
 some (List.length x0.fL:Int)>>=fun v0=>
 some (v0==0)
 else
 some false
theorem HX(x0 r)(h:DG x0=some r):PU 275 [Qe x0] (eB r):=
 Pu2 (hs:=[(5,.split),(9,.n eI 9 none)]) ((kIf (c:=x0.fK==0) (kN _ (mLen (sh:=Qk) x0.fL) fun v0=>(kEr (enc:=eB) (v0==0)))
 (kEr (enc:=eB) false)) h)
def D4(x0:Q7):Option Bool:=
 if x0.fu==[] then
 some (List.length x0.fAt:Int)>>=fun v0=>
 some (v0==0)
 else
 DG x0.fj>>=fun v1=>
 some v1
theorem RK(x0 r)(h:D4 x0=some r):PU 278 [Q2 x0] (eB r):=
 Pu2 (hs:=[(5,.split),(8,.n eI 8 none),(12,.c eB)]) ((kIf (c:=x0.fu==[]) (kN _ (mLen (sh:=Qe) x0.fAt) fun v0=>(kEr (enc:=eB) (v0==0)))
 (kC (sh:=eB) (HX x0.fj) fun v1=>(kEr (enc:=eB) v1))) h)
def Nh(x0:Q7):Option Bool:=
 D4 x0>>=fun v0=>
 some (!v0)
theorem Sd(x0 r)(h:Nh x0=some r):PU 277 [Q2 x0] (eB r):=
 Pu2 (hs:=[(4,.c eB)]) ((kC (sh:=eB) (RK x0) fun v0=>(kEr (enc:=eB) (!v0))) h)
def Zm(s:List Q7)(u:Int)(o:Unit ⊕ Int):List Alt:=lp o (.exit 0) (fun _=>[.undef]) (fun _=>[]) .ret (fun x=>[ii x]) (fun _=>[])
def Z0(x0:List Q7)(x7:Int)(x8:Int):Option (Unit ⊕ Int):=
 if x8<x7 then
 ix x0 x8>>=fun v0=>
 Nh v0>>=fun v1=>if v1 then
 some (.inr x8)
 else
 Z0 x0 x7 (wr (x8+1))
 else
 some (.inl ())
 partial_fixpoint
theorem Cn(x0 x7 x8 o)(h:Z0 x0 x7 x8=some o):LO 339 2 19 [0,1,7,8] [.sl 4 (List.map Q2 x0),.fn 277 [],ii x7,ii x8] [] [4] (Zm x0 x7 o):=
 Z0.partial_correctness x0 x7 (fun x8 o=>LO 339 2 19 [0,1,7,8] [.sl 4 (List.map Q2 x0),.fn 277 [],ii x7,ii x8] [] [4] (Zm x0 x7 o))
 (fun Z0 Qa8 x8 o h=>
 Lp2 (hs:=[(9,.split),(14,.e Q2),(16,.cb)]) (kb:=[]) (kbx:=[]) ((kIfD (p:=x8<x7) (kIx (enc:=Q2) (l:=x0) (k:=x8) fun v0=>(kCb (Sd v0) (kX (alts:=Zm x0 x7) (.inr x8) (.next (.here _ rfl (.refl _) (.refl _))))
 (kM0 (alts:=Zm x0 x7) (Qa8 (wr (x8+1))))))
 (kX (alts:=Zm x0 x7) (.inl ()) (.here _ rfl (.refl _) (.refl _)))) h)) x8 o h
def KV(x0:List Q7):Option Int:=
 some (List.length x0:Int)>>=fun v0=>
 some v0>>=fun v1=>
 Z0 x0 v0 0>>=fun v2=>(match v2 with
 | (.inl v3)=>
 some (-1:Int)
 | (.inr v4)=>
 some v4)
theorem Wj(x0 r)(h:KV x0=some r):PU 339 [YB x0,.fn 277 []] (eI r):=
 Pu2 (hs:=[(7,.n eI 7 none),(3000003,.l [] [0,1,7,8] [] [4] [] (Zm x0))]) ((kN _ (mLen (sh:=Q2) x0) fun v0=>(kL2 v0 (hL:=(Cn x0 v0 0)) (hA:=fun v1 v3=>(kEr (enc:=eI) (-1:Int)))
 (hB:=fun v1 v4=>(kEr (enc:=eI) v4)))) h)
def Xx(x0:List Q7):Option Bool:=
 KV x0>>=fun v0=>
 some (decide (0≤v0))
theorem Cj(x0 r)(h:Xx x0=some r):PU 276 [YB x0,.fn 277 []] (eB r):=
 Pu2 (hs:=[(7,.c eI)]) ((kC (sh:=eI) (Wj x0) fun v0=>(kEr (enc:=eB) (decide (0≤v0)))) h)
def GQ(s:Q1)(u:Unit)(o:(Bool×Bool)):List Alt:=l1 o .normal (fun x=>[.ptr 0 0 0,.bool (x.1),.bool (x.2)]) (fun _=>[.cells 0 (Q5 s).cells])
def Jm(s:Q1)(u:(Bool×Bool×Bool×Bool))(o:Bool):List Alt:=jb o (fun b=>[.ptr 0 0 0,.bool (u.1),.bool (u.2.1),.bool (u.2.2.1),.bool (u.2.2.2),.bool b]) [.cells 0 (Q5 s).cells]
def Jo(s:Q1)(u:(Bool×Bool×Bool))(o:Bool):List Alt:=jb o (fun b=>[.ptr 0 0 0,.bool (u.1),.bool (u.2.1),.bool (u.2.2),.bool b]) [.cells 0 (Q5 s).cells]
def Jp(s:Q1)(u:(Bool×Bool))(o:Bool):List Alt:=jb o (fun b=>[.ptr 0 0 0,.bool (u.1),.bool (u.2),.bool b]) [.cells 0 (Q5 s).cells]
def Jq(s:Q1)(u:Bool)(o:Bool):List Alt:=jb o (fun b=>[.ptr 0 0 0,.bool u,.bool b]) [.cells 0 (Q5 s).cells]
def KQ(s:Q1)(u:Unit)(o:Bool):List Alt:=jb o (fun b=>[.ptr 0 0 0,.bool b]) [.cells 0 (Q5 s).cells]
def Wy(x0:Q1):Option Bool:=
 some ()>>=fun v0=>
 (if x0.fOp==1 then
 some ((x0.fOp==1),true)
 else
 some ((x0.fOp==1),(x0.fOp==12)))>>=fun v2=>
 some (v2.fst,v2.snd,(x0.fOp==2),(x0.fOp==3))>>=fun v3=>
 (if x0.fOp<1 then
 some true
 else
 if 18<x0.fOp then
 some true
 else
 some false)>>=fun v4=>if v4 then
 some false
 else
 some (v3.snd.fst,v3.snd.snd.fst,v3.snd.snd.snd)>>=fun v7=>
 (if v3.fst then
 some false
 else
 some ((gVal.mk (0:Int) (0:Int)))>>=fun v9=>
 if !(x0.fx.fN==v9.fN&& (x0.fx.fD==v9.fD&&true)) then
 some true
 else
 some false)>>=fun v8=>if v8 then
 some false
 else
 some (v7.snd.fst,v7.snd.snd)>>=fun a5=>
 (if v7.fst then
 some false
 else
 some ((Qc.mk (0:Int) (0:Int) (0:Int) (0:Int) (0:Int)))>>=fun a4=>
 if !(x0.fd.fk==a4.fk&& (x0.fd.fm==a4.fm&& (x0.fd.fv==a4.fv&& (x0.fd.fo==a4.fo&& (x0.fd.fw==a4.fw&&true))))) then
 some true
 else
 some false)>>=fun a7=>if a7 then
 some false
 else
 some a5.snd>>=fun a8=>
 (if a5.fst then
 some false
 else
 DG x0.fj>>=fun aa=>if aa then
 some false
 else
 some true)>>=fun a9=>if a9 then
 some false
 else
 some ()>>=fun ah=>
 (if a8 then
 some false
 else
 if !x0.fa==[] then
 some true
 else
 some (List.length x0.fe:Int)>>=fun ac=>
 if 0<ac then
 some true
 else
 some false)>>=fun ab=>if ab then
 some false
 else
 Xx x0.fe>>=fun ad=>
 some (!ad)
theorem FQ(x0 r)(h:Wy x0=some r):PU 229 [Q5 x0] (eB r):=
 Pu2 (hs:=[(12,.split),(27,.split),(31,.split),(34,.split),(39,.n Nz 39 none),(40,.split),(43,.split),(48,.n Qf 48 none),(49,.split),(52,.split),(57,.cb),(61,.split),(66,.split),(70,.n eI 70 none),(71,.split),(76,.c eB),(5000001,.l [] [] [] [1,3,4] [kk 1] (GQ x0)),(5000003,.l [] [] [] [1,3,4,5,6,24] [kk 1] (Jm x0)),(5000005,.l [] [] [] [1,4,5,6,33] [kk 1] (Jo x0)),(5000007,.l [] [] [] [1,5,6,42] [kk 1] (Jp x0)),(5000009,.l [] [] [] [1,6,51] [kk 1] (Jq x0)),(5000011,.l [] [] [] [1,60] [kk 1] (KQ x0))]) ((kJ1 (id:=5000001) () (fun v0 ac v1=>(kIf (c:=x0.fOp==1) (kXj (alts:=GQ x0) ac ((x0.fOp==1),true) (.here _ rfl (.refl _) (.refl _)))
 (kXj (alts:=GQ x0) ac ((x0.fOp==1),(x0.fOp==12)) (.here _ rfl (.refl _) (.refl _)))))
 (fun v0 v2=>(kJb (id:=5000003) (v2.fst,v2.snd,(x0.fOp==2),(x0.fOp==3)) (fun v3 a8 v4=>(kIfD (p:=x0.fOp<1) (kXj (alts:=Jm x0) a8 true (.here () rfl (.refl _) (.refl _)))
 (kIfD (p:=18<x0.fOp) (kXj (alts:=Jm x0) a8 true (.here () rfl (.refl _) (.refl _)))
 (kXj (alts:=Jm x0) a8 false (.next (.here () rfl (.refl _) (.refl _)))))))
 (fun v3=>(kEr (enc:=eB) false))
 (fun v3=>(kJb (id:=5000005) (v3.snd.fst,v3.snd.snd.fst,v3.snd.snd.snd) (fun v7 a9 v8=>(kIf (c:=v3.fst) (kXj (alts:=Jo x0) a9 false (.next (.here () rfl (.refl _) (.refl _))))
 (kW (sh:=Nz) (gVal.mk (0:Int) (0:Int)) lr fun v9=>(kIf (c:= !(x0.fx.fN==v9.fN&& (x0.fx.fD==v9.fD&&true))) (kXj (alts:=Jo x0) a9 true (.here () rfl (.refl _) (.refl _)))
 (kXj (alts:=Jo x0) a9 false (.next (.here () rfl (.refl _) (.refl _))))))))
 (fun v7=>(kEr (enc:=eB) false))
 (fun v7=>(kJb (id:=5000007) (v7.snd.fst,v7.snd.snd) (fun a7 a4 ak=>(kIf (c:=v7.fst) (kXj (alts:=Jp x0) a4 false (.next (.here () rfl (.refl _) (.refl _))))
 (kW (sh:=Qf) (Qc.mk (0:Int) (0:Int) (0:Int) (0:Int) (0:Int)) lr fun a6=>(kIf (c:= !(x0.fd.fk==a6.fk&& (x0.fd.fm==a6.fm&& (x0.fd.fv==a6.fv&& (x0.fd.fo==a6.fo&& (x0.fd.fw==a6.fw&&true)))))) (kXj (alts:=Jp x0) a4 true (.here () rfl (.refl _) (.refl _)))
 (kXj (alts:=Jp x0) a4 false (.next (.here () rfl (.refl _) (.refl _))))))))
 (fun a7=>(kEr (enc:=eB) false))
 (fun a7=>(kJb (id:=5000009) a7.snd (fun aa a5 am=>(kIf (c:=a7.fst) (kXj (alts:=Jq x0) a5 false (.next (.here () rfl (.refl _) (.refl _))))
 (kCb (HX x0.fj) (kXj (alts:=Jq x0) a5 false (.next (.here () rfl (.refl _) (.refl _))))
 (kXj (alts:=Jq x0) a5 true (.here () rfl (.refl _) (.refl _))))))
 (fun aa=>(kEr (enc:=eB) false))
 (fun aa=>(kJb (id:=5000011) () (fun ad a3 an=>(kIf (c:=aa) (kXj (alts:=KQ x0) a3 false (.next (.here () rfl (.refl _) (.refl _))))
 (kIf (c:= !x0.fa==[]) (kXj (alts:=KQ x0) a3 true (.here () rfl (.refl _) (.refl _)))
 (kN _ (mLen (sh:=Q2) x0.fe) fun af=>(kIfD (p:=0<af) (kXj (alts:=KQ x0) a3 true (.here () rfl (.refl _) (.refl _)))
 (kXj (alts:=KQ x0) a3 false (.next (.here () rfl (.refl _) (.refl _)))))))))
 (fun ad=>(kEr (enc:=eB) false))
 (fun ad=>(kC (sh:=eB) (Cj x0.fe) fun ag=>(kEr (enc:=eB) (!ag))))))))))))))) h)
def X3(s:(Int×Int))(u:Unit)(o:Bool):List Alt:=jb o (fun b=>[ii (s.1),ii (s.2),.bool b]) []
def Vy(x0:Int)(x1:Int):Option Bool:=
 some ()>>=fun v0=>
 (if x0==16 then
 some true
 else
 if x0==17 then
 some true
 else
 if x0==18 then
 some true
 else
 some false)>>=fun v1=>if v1 then
 some true
 else
 if x0==11 then
 some (x1==0)
 else
 some false
theorem Lw(x0 x1 r)(h:Vy x0 x1=some r):PU 282 [eI x0,eI x1] (eB r):=
 Pu2 (hs:=[(6,.split),(6,.split),(6,.split),(11,.split),(6000004,.l [] [] [] [0,1,6] [] (X3 (x0,x1)))]) ((kJb (id:=6000004) () (fun v0 a3 v1=>(kIf (c:=x0==16) (kXj (alts:=X3 (x0,x1)) a3 true (.here () rfl (.refl _) (.refl _)))
 (kIf (c:=x0==17) (kXj (alts:=X3 (x0,x1)) a3 true (.here () rfl (.refl _) (.refl _)))
 (kIf (c:=x0==18) (kXj (alts:=X3 (x0,x1)) a3 true (.here () rfl (.refl _) (.refl _)))
 (kXj (alts:=X3 (x0,x1)) a3 false (.next (.here () rfl (.refl _) (.refl _))))))))
 (fun v0=>(kEr (enc:=eB) true))
 (fun v0=>(kIf (c:=x0==11) (kEr (enc:=eB) (x1==0))
 (kEr (enc:=eB) false)))) h)
def U6(s:Q1)(u:((List Qa)×Int))(o:Unit ⊕ Bool):List Alt:=lp o (.exit 0) (fun _=>[.undef]) (fun _=>[]) .ret (fun x=>[.bool x]) (fun _=>[])
def YZ(x1:Q1)(a4:List Qa)(a5:Int)(a3:Int):Option (Unit ⊕ Bool):=
 if a3<a5 then
 Option.map Qa.f (ix a4 a3)>>=fun v0=>
 Kh v0>>=fun v1=>
 Vy x1.fOp a3>>=fun v2=>
 if !v1==v2 then
 some (.inr false)
 else
 YZ x1 a4 a5 (wr (a3+1))
 else
 some (.inl ())
 partial_fixpoint
theorem Se(x1 x20 x21 a3 o)(h:YZ x1 x20 x21 a3=some o):LO 232 4 35 [1,20,21,22] [.ptr 0 0 0,.sl 13 (List.map Qi x20),ii x21,ii a3] [.cells 0 (Q5 x1).cells] [2] (U6 x1 (x20,x21) o):=
 YZ.partial_correctness x1 x20 x21 (fun a3 o=>LO 232 4 35 [1,20,21,22] [.ptr 0 0 0,.sl 13 (List.map Qi x20),ii x21,ii a3] [.cells 0 (Q5 x1).cells] [2] (U6 x1 (x20,x21) o))
 (fun YZ Q7v a3 o h=>
 Lp2 (hs:=[(23,.split),(25,.e Q5),(28,.c eB),(32,.c eB),(33,.split)]) (kb:=[kk 1]) (kbx:=[]) ((kIfD (p:=a3<x21) (kIxR (l:=x20) (k:=a3) XH fun v0=>(kC (sh:=eB) (GD v0) fun v1=>(kC (sh:=eB) (Lw x1.fOp a3) fun v2=>(kIf (c:= !v1==v2) (kX (alts:=U6 x1 (x20,x21)) (.inr false) (.next (.here _ rfl (.refl _) (.refl _))))
 (kM0 (alts:=U6 x1 (x20,x21)) (Q7v (wr (a3+1))))))))
 (kX (alts:=U6 x1 (x20,x21)) (.inl ()) (.here _ rfl (.refl _) (.refl _)))) h)) a3 o h
def K9(s:Q1)(u:Unit)(o:Bool):List Alt:=jb o (fun b=>[.ptr 0 0 0,.bool b]) [.cells 0 (Q5 s).cells]
def Ni(x0:Q1):Option Bool:=
 some ()>>=fun v0=>
 (if x0.fOp==1 then
 YA x0.fd>>=fun v2=>
 if v2 !=0 then
 some true
 else
 some false
 else
 if x0.fOp==12 then
 YA x0.fd>>=fun v3=>
 if v3 !=0 then
 some true
 else
 some false
 else
 some false)>>=fun v1=>if v1 then
 some false
 else
 some (List.length x0.ff:Int)>>=fun v6=>
 some (x0.ff,v6)>>=fun v7=>
 YZ x0 x0.ff v6 0>>=fun v8=>(match v8 with
 | (.inl v9)=>
 some true
 | (.inr v10)=>
 some v10)
theorem PV(x0 r)(h:Ni x0=some r):PU 232 [Q5 x0] (eB r):=
 Pu2 (hs:=[(7,.split),(11,.split),(16,.c eI),(17,.split),(21,.n eI 21 none),(3000005,.l [] [1,20,21,22] [kk 1] [2] [] (U6 x0)),(5000001,.l [] [] [] [1,18] [kk 1] (K9 x0))]) ((kJb (id:=5000001) () (fun v0 a3 v1=>(kIf (c:=x0.fOp==1) (kC (sh:=eI) (UF x0.fd) fun v2=>(kIf (c:=v2 !=0) (kXj (alts:=K9 x0) a3 true (.here () rfl (.refl _) (.refl _)))
 (kXj (alts:=K9 x0) a3 false (.next (.here () rfl (.refl _) (.refl _))))))
 (kIf (c:=x0.fOp==12) (kC (sh:=eI) (UF x0.fd) fun v3=>(kIf (c:=v3 !=0) (kXj (alts:=K9 x0) a3 true (.here () rfl (.refl _) (.refl _)))
 (kXj (alts:=K9 x0) a3 false (.next (.here () rfl (.refl _) (.refl _))))))
 (kXj (alts:=K9 x0) a3 false (.next (.here () rfl (.refl _) (.refl _)))))))
 (fun v0=>(kEr (enc:=eB) false))
 (fun v0=>(kN _ (mLen (sh:=Qi) x0.ff) fun v6=>(kL2 (x0.ff,v6) (hL:=(Se x0 x0.ff v6 0)) (hA:=fun v7 v9=>(kEr (enc:=eB) true))
 (hB:=fun v7 a4=>(kEr (enc:=eB) a4)))))) h)
def WI(x0:Int):Option Bool:=
 if 2≤x0 then
 some (decide (x0≤31))
 else
 some false
theorem E3(x0 r)(h:WI x0=some r):PU 383 [eI x0] (eB r):=
 Pu2 (hs:=[(4,.split)]) ((kIfD (p:=2≤x0) (kEr (enc:=eB) (decide (x0≤31)))
 (kEr (enc:=eB) false)) h)
def NU(x0:Int):Option Int:=
 WI x0>>=fun v0=>if v0 then
 if 0≤w6 (wr (x0 - (1:Int))) then
 some (wr ((0:Int) - wr ((1:Int)*(2:Int)^min (w6 (wr (x0 - (1:Int)))).toNat (64:Nat))))
 else none
 else
 some (0:Int)
theorem AH(x0 r)(h:NU x0=some r):PU 340 [eI x0] (eI r):=
 Pu2 (hs:=[(4,.cb),(9,.s)]) ((kCb (E3 x0) (kG (p:=0≤w6 (wr (x0 - (1:Int)))) (kEr (enc:=eI) (wr ((0:Int) - wr ((1:Int)*(2:Int)^min (w6 (wr (x0 - (1:Int)))).toNat (64:Nat))))))
 (kEr (enc:=eI) (0:Int))) h)
def NT(x0:Int):Option Int:=
 WI x0>>=fun v0=>if v0 then
 if 0≤w6 (wr (x0 - (1:Int))) then
 some (wr (wr ((1:Int)*(2:Int)^min (w6 (wr (x0 - (1:Int)))).toNat (64:Nat)) - (1:Int)))
 else none
 else
 some (0:Int)
theorem AG(x0 r)(h:NT x0=some r):PU 341 [eI x0] (eI r):=
 Pu2 (hs:=[(4,.cb),(9,.s)]) ((kCb (E3 x0) (kG (p:=0≤w6 (wr (x0 - (1:Int)))) (kEr (enc:=eI) (wr (wr ((1:Int)*(2:Int)^min (w6 (wr (x0 - (1:Int)))).toNat (64:Nat)) - (1:Int)))))
 (kEr (enc:=eI) (0:Int))) h)
def MJ(x0:Qc)(x1:gVal):Option Bool:=
 Kx x0>>=fun v0=>
 if v0==0 then
 if x1.fD==1 then
 NU x0.fm>>=fun v1=>
 if v1≤x1.fN then
 NT x0.fm>>=fun v2=>
 some (decide (x1.fN≤v2))
 else
 some false
 else
 some false
 else
 some false
theorem FR(x0 x1 r)(h:MJ x0 x1=some r):PU 283 [Qf x0,Nz x1] (eB r):=
 Pu2 (hs:=[(6,.c eI),(7,.split),(11,.split),(18,.c eI),(19,.split),(26,.c eI)]) ((kC (sh:=eI) (Ns x0) fun v0=>(kIf (c:=v0==0) (kIf (c:=x1.fD==1) (kC (sh:=eI) (AH x0.fm) fun v1=>(kIfD (p:=v1≤x1.fN) (kC (sh:=eI) (AG x0.fm) fun v2=>(kEr (enc:=eB) (decide (x1.fN≤v2))))
 (kEr (enc:=eB) false)))
 (kEr (enc:=eB) false))
 (kEr (enc:=eB) false))) h)
def MN(x0:Int):Option Bool:=
 if(-2147483647:Int)≤x0 then
 some (decide (x0≤2147483647))
 else
 some false
theorem Pc(x0 r)(h:MN x0=some r):PU 284 [eI x0] (eB r):=
 Pu2 (hs:=[(4,.split)]) ((kIfD (p:=(-2147483647:Int)≤x0) (kEr (enc:=eB) (decide (x0≤2147483647)))
 (kEr (enc:=eB) false)) h)
def NS(x0:Int):Option Bool:=
 if(-2147483647:Int)≤x0 then
 some (decide (x0≤2147483647))
 else
 some false
theorem AA(x0 r)(h:NS x0=some r):PU 342 [eI x0] (eB r):=
 Pu2 (hs:=[(4,.split)]) ((kIfD (p:=(-2147483647:Int)≤x0) (kEr (enc:=eB) (decide (x0≤2147483647)))
 (kEr (enc:=eB) false)) h)
def WQ(x0:Int):Option Int:=
 if x0<0 then
 some (w6 ((0:Int) - w6 x0))
 else
 some (w6 x0)
theorem To(x0 r)(h:WQ x0=some r):PU 344 [eI x0] (eU64 r):=
 Pu2 (hs:=[(4,.split)]) ((kIfD (p:=x0<0) (kEr (enc:=eU64) (w6 ((0:Int) - w6 x0)))
 (kEr (enc:=eU64) (w6 x0))) h)
def DE(s:Unit)(u:Unit)(o:Int):List Alt:=l1 o (.exit 0) (fun x=>[.int .u64 x]) (fun _=>[])
def Uo(x0:Int)(x1:Int):Option Int:=
 if x1 !=0 then
 if x1≠0 then
 some (x0.tmod x1:Int)>>=fun v0=>
 Uo x1 v0
 else none
 else
 some x0
 partial_fixpoint
theorem FS(x0 x1 o)(h:Uo x0 x1=some o):LO 343 1 12 [0,1] [.int .u64 x0,.int .u64 x1] [] [0] (DE () () o):=
 Uo.partial_correctness (fun x0 x1 o=>LO 343 1 12 [0,1] [.int .u64 x0,.int .u64 x1] [] [0] (DE () () o))
 (fun Uo Q7w x0 x1 o h=>
 Lp2 (hs:=[(6,.split),(10,.s),(1,.n eU64 1 none)]) (kb:=[]) (kbx:=[]) ((kIf (c:=x1 !=0) (kG (p:=x1≠0) (kN (x0.tmod x1) rfl fun v0=>(kM0 (alts:=DE () ()) (Q7w x1 v0))))
 (kX (alts:=DE () ()) x0 (.here _ rfl (.refl _) (.refl _)))) h)) x0 x1 o h
def Hb(x0:Int)(x1:Int):Option Int:=
 some ()>>=fun v0=>
 Uo x0 x1>>=fun v2=>
 some v2
theorem Q2j(x0 x1 r)(h:Hb x0 x1=some r):PU 343 [eU64 x0,eU64 x1] (eU64 r):=
 Pu2 (hs:=[(3000002,.l [] [0,1] [] [0] [] (DE ()))]) ((kL1 () (FS x0 x1) fun v0 v2=>(kEr (enc:=eU64) v2)) h)
def Nj(x0:gVal):Option Bool:=
 if 1≤x0.fD then
 if x0.fD≤2147483647 then
 NS x0.fN>>=fun v0=>if v0 then
 WQ x0.fN>>=fun v1=>
 Hb v1 (w6 x0.fD)>>=fun v2=>
 some (v2==1)
 else
 some false
 else
 some false
 else
 some false
theorem PW(x0 r)(h:Nj x0=some r):PU 285 [Nz x0] (eB r):=
 Pu2 (hs:=[(5,.split),(9,.split),(14,.cb),(19,.c eU64),(23,.c eU64)]) ((kIfD (p:=1≤x0.fD) (kIfD (p:=x0.fD≤2147483647) (kCb (AA x0.fN) (kC (sh:=eU64) (To x0.fN) fun v1=>(kC (sh:=eU64) (Q2j v1 (w6 x0.fD)) fun v2=>(kEr (enc:=eB) (v2==1))))
 (kEr (enc:=eB) false))
 (kEr (enc:=eB) false))
 (kEr (enc:=eB) false)) h)
def WK(x0:Qc)(x1:gVal):Option Bool:=
 YA x0>>=fun v0=>
 if v0 !=0 then
 some false
 else
 if x0.fk==2 then
 MJ x0 x1>>=fun v1=>
 some v1
 else
 if x0.fk==3 then
 if x1.fD==1 then
 MN x1.fN>>=fun v2=>
 some v2
 else
 some false
 else
 Nj x1>>=fun v3=>
 some v3
theorem Pa(x0 x1 r)(h:WK x0 x1=some r):PU 233 [Qf x0,Nz x1] (eB r):=
 Pu2 (hs:=[(6,.c eI),(7,.split),(11,.split),(14,.c eB),(16,.split),(19,.split),(23,.c eB),(26,.c eB)]) ((kC (sh:=eI) (UF x0) fun v0=>(kIf (c:=v0 !=0) (kEr (enc:=eB) false)
 (kIf (c:=x0.fk==2) (kC (sh:=eB) (FR x0 x1) fun v1=>(kEr (enc:=eB) v1))
 (kIf (c:=x0.fk==3) (kIf (c:=x1.fD==1) (kC (sh:=eB) (Pc x1.fN) fun v2=>(kEr (enc:=eB) v2))
 (kEr (enc:=eB) false))
 (kC (sh:=eB) (PW x1) fun v3=>(kEr (enc:=eB) v3)))))) h)
def Kf(s:Unit)(u:Int)(o:Bool):List Alt:=jb o (fun b=>[ii u,.bool b]) []
def Kg(s:Unit)(u:Int)(o:Bool):List Alt:=jb o (fun b=>[ii u,.bool b]) []
def DZ(x0:Int):Option Int:=
 some x0>>=fun v0=>
 (if x0==1 then
 some true
 else
 if x0==2 then
 some true
 else
 if x0==3 then
 some true
 else
 some false)>>=fun v1=>if v1 then
 some (0:Int)
 else
 some v0>>=fun v4=>
 (if v0==8 then
 some true
 else
 if v0==12 then
 some true
 else
 if v0==18 then
 some true
 else
 some false)>>=fun v5=>if v5 then
 some (1:Int)
 else
 if v4==11 then
 some (3:Int)
 else
 some (2:Int)
theorem Sc(x0 r)(h:DZ x0=some r):PU 280 [eI x0] (eI r):=
 Pu2 (hs:=[(4,.split),(4,.split),(4,.split),(8,.split),(8,.split),(8,.split),(13,.split),(6000004,.l [] [] [] [3,4] [] (Kf ())),(6000008,.l [] [] [] [3,8] [] (Kg ()))]) ((kJb (id:=6000004) x0 (fun v0 a3 v1=>(kIf (c:=x0==1) (kXj (alts:=Kf ()) a3 true (.here () rfl (.refl _) (.refl _)))
 (kIf (c:=x0==2) (kXj (alts:=Kf ()) a3 true (.here () rfl (.refl _) (.refl _)))
 (kIf (c:=x0==3) (kXj (alts:=Kf ()) a3 true (.here () rfl (.refl _) (.refl _)))
 (kXj (alts:=Kf ()) a3 false (.next (.here () rfl (.refl _) (.refl _))))))))
 (fun v0=>(kEr (enc:=eI) (0:Int)))
 (fun v0=>(kJb (id:=6000008) v0 (fun v4 a4 v5=>(kIf (c:=v0==8) (kXj (alts:=Kg ()) a4 true (.here () rfl (.refl _) (.refl _)))
 (kIf (c:=v0==12) (kXj (alts:=Kg ()) a4 true (.here () rfl (.refl _) (.refl _)))
 (kIf (c:=v0==18) (kXj (alts:=Kg ()) a4 true (.here () rfl (.refl _) (.refl _)))
 (kXj (alts:=Kg ()) a4 false (.next (.here () rfl (.refl _) (.refl _))))))))
 (fun v4=>(kEr (enc:=eI) (1:Int)))
 (fun v4=>(kIf (c:=v4==11) (kEr (enc:=eI) (3:Int))
 (kEr (enc:=eI) (2:Int))))))) h)
end Go.Proofs.YtkgphhemcglgnaaGreatDoor
end
noncomputable section
namespace Go.Proofs.YtkgphhemcglgnaaGreatDoor
open Go HY
set_option maxRecDepth 1000000
def NR(x0:Q7):Option Bool:=
 if !x0.fu==[] then
 Jf x0.fu>>=fun v0=>
 some (!v0)
 else
 some false
theorem Az(x0 r)(h:NR x0=some r):PU 279 [Q2 x0] (eB r):=
 Pu2 (hs:=[(5,.split),(9,.c eB)]) ((kIf (c:= !x0.fu==[]) (kC (sh:=eB) (CJ x0.fu) fun v0=>(kEr (enc:=eB) (!v0)))
 (kEr (enc:=eB) false)) h)
def Zn(s:List Q7)(u:Int)(o:Unit ⊕ Int):List Alt:=lp o (.exit 0) (fun _=>[.undef]) (fun _=>[]) .ret (fun x=>[ii x]) (fun _=>[])
def Z1(x0:List Q7)(x7:Int)(x8:Int):Option (Unit ⊕ Int):=
 if x8<x7 then
 ix x0 x8>>=fun v0=>
 NR v0>>=fun v1=>if v1 then
 some (.inr x8)
 else
 Z1 x0 x7 (wr (x8+1))
 else
 some (.inl ())
 partial_fixpoint
theorem Co(x0 x7 x8 o)(h:Z1 x0 x7 x8=some o):LO 339 2 19 [0,1,7,8] [.sl 4 (List.map Q2 x0),.fn 279 [],ii x7,ii x8] [] [4] (Zn x0 x7 o):=
 Z1.partial_correctness x0 x7 (fun x8 o=>LO 339 2 19 [0,1,7,8] [.sl 4 (List.map Q2 x0),.fn 279 [],ii x7,ii x8] [] [4] (Zn x0 x7 o))
 (fun Z1 Qa9 x8 o h=>
 Lp2 (hs:=[(9,.split),(14,.e Q2),(16,.cb)]) (kb:=[]) (kbx:=[]) ((kIfD (p:=x8<x7) (kIx (enc:=Q2) (l:=x0) (k:=x8) fun v0=>(kCb (Az v0) (kX (alts:=Zn x0 x7) (.inr x8) (.next (.here _ rfl (.refl _) (.refl _))))
 (kM0 (alts:=Zn x0 x7) (Qa9 (wr (x8+1))))))
 (kX (alts:=Zn x0 x7) (.inl ()) (.here _ rfl (.refl _) (.refl _)))) h)) x8 o h
def KW(x0:List Q7):Option Int:=
 some (List.length x0:Int)>>=fun v0=>
 some v0>>=fun v1=>
 Z1 x0 v0 0>>=fun v2=>(match v2 with
 | (.inl v3)=>
 some (-1:Int)
 | (.inr v4)=>
 some v4)
theorem Wl(x0 r)(h:KW x0=some r):PU 339 [YB x0,.fn 279 []] (eI r):=
 Pu2 (hs:=[(7,.n eI 7 none),(3000003,.l [] [0,1,7,8] [] [4] [] (Zn x0))]) ((kN _ (mLen (sh:=Q2) x0) fun v0=>(kL2 v0 (hL:=(Co x0 v0 0)) (hA:=fun v1 v3=>(kEr (enc:=eI) (-1:Int)))
 (hB:=fun v1 v4=>(kEr (enc:=eI) v4)))) h)
def Xy(x0:List Q7):Option Bool:=
 KW x0>>=fun v0=>
 some (decide (0≤v0))
theorem Ck(x0 r)(h:Xy x0=some r):PU 276 [YB x0,.fn 279 []] (eB r):=
 Pu2 (hs:=[(7,.c eI)]) ((kC (sh:=eI) (Wl x0) fun v0=>(kEr (enc:=eB) (decide (0≤v0)))) h)
def U5(s:Q1)(u:Unit)(o:Bool):List Alt:=jb o (fun b=>[.ptr 0 0 0,.bool b]) [.cells 0 (Q5 s).cells]
def Ng(x0:Q1):Option Bool:=
 some ()>>=fun v0=>
 (if x0.fOp==3 then
 Jf x0.fa>>=fun v2=>if v2 then
 some false
 else
 some true
 else
 some false)>>=fun v1=>if v1 then
 some false
 else
 Xy x0.fe>>=fun v5=>
 some (!v5)
theorem PT(x0 r)(h:Ng x0=some r):PU 230 [Q5 x0] (eB r):=
 Pu2 (hs:=[(5,.split),(9,.cb),(14,.c eB),(5000001,.l [] [] [] [1,11] [kk 1] (U5 x0))]) ((kJb (id:=5000001) () (fun v0 a3 v1=>(kIf (c:=x0.fOp==3) (kCb (CJ x0.fa) (kXj (alts:=U5 x0) a3 false (.next (.here () rfl (.refl _) (.refl _))))
 (kXj (alts:=U5 x0) a3 true (.here () rfl (.refl _) (.refl _))))
 (kXj (alts:=U5 x0) a3 false (.next (.here () rfl (.refl _) (.refl _))))))
 (fun v0=>(kEr (enc:=eB) false))
 (fun v0=>(kC (sh:=eB) (Ck x0.fe) fun v5=>(kEr (enc:=eB) (!v5))))) h)
end Go.Proofs.YtkgphhemcglgnaaGreatDoor
end
noncomputable section
namespace Go.Proofs.YtkgphhemcglgnaaGreatDoor
open Go HY
set_option maxRecDepth 1000000
def MI(x0:Q7):Option Bool:=
 some (List.length x0.fAt:Int)>>=fun v0=>
 some (decide (6<v0))
theorem FO(x0 r)(h:MI x0=some r):PU 281 [Q2 x0] (eB r):=
 Pu2 (hs:=[(5,.n eI 5 none)]) ((kN _ (mLen (sh:=Qe) x0.fAt) fun v0=>(kEr (enc:=eB) (decide (6<v0)))) h)
def Zo(s:List Q7)(u:Int)(o:Unit ⊕ Int):List Alt:=lp o (.exit 0) (fun _=>[.undef]) (fun _=>[]) .ret (fun x=>[ii x]) (fun _=>[])
def Z2(x0:List Q7)(x7:Int)(x8:Int):Option (Unit ⊕ Int):=
 if x8<x7 then
 ix x0 x8>>=fun v0=>
 MI v0>>=fun v1=>if v1 then
 some (.inr x8)
 else
 Z2 x0 x7 (wr (x8+1))
 else
 some (.inl ())
 partial_fixpoint
theorem Cp(x0 x7 x8 o)(h:Z2 x0 x7 x8=some o):LO 339 2 19 [0,1,7,8] [.sl 4 (List.map Q2 x0),.fn 281 [],ii x7,ii x8] [] [4] (Zo x0 x7 o):=
 Z2.partial_correctness x0 x7 (fun x8 o=>LO 339 2 19 [0,1,7,8] [.sl 4 (List.map Q2 x0),.fn 281 [],ii x7,ii x8] [] [4] (Zo x0 x7 o))
 (fun Z2 Qaa x8 o h=>
 Lp2 (hs:=[(9,.split),(14,.e Q2),(16,.cb)]) (kb:=[]) (kbx:=[]) ((kIfD (p:=x8<x7) (kIx (enc:=Q2) (l:=x0) (k:=x8) fun v0=>(kCb (FO v0) (kX (alts:=Zo x0 x7) (.inr x8) (.next (.here _ rfl (.refl _) (.refl _))))
 (kM0 (alts:=Zo x0 x7) (Qaa (wr (x8+1))))))
 (kX (alts:=Zo x0 x7) (.inl ()) (.here _ rfl (.refl _) (.refl _)))) h)) x8 o h
def KX(x0:List Q7):Option Int:=
 some (List.length x0:Int)>>=fun v0=>
 some v0>>=fun v1=>
 Z2 x0 v0 0>>=fun v2=>(match v2 with
 | (.inl v3)=>
 some (-1:Int)
 | (.inr v4)=>
 some v4)
theorem Wm(x0 r)(h:KX x0=some r):PU 339 [YB x0,.fn 281 []] (eI r):=
 Pu2 (hs:=[(7,.n eI 7 none),(3000003,.l [] [0,1,7,8] [] [4] [] (Zo x0))]) ((kN _ (mLen (sh:=Q2) x0) fun v0=>(kL2 v0 (hL:=(Cp x0 v0 0)) (hA:=fun v1 v3=>(kEr (enc:=eI) (-1:Int)))
 (hB:=fun v1 v4=>(kEr (enc:=eI) v4)))) h)
def Xz(x0:List Q7):Option Bool:=
 KX x0>>=fun v0=>
 some (decide (0≤v0))
theorem Cl(x0 r)(h:Xz x0=some r):PU 276 [YB x0,.fn 281 []] (eB r):=
 Pu2 (hs:=[(7,.c eI)]) ((kC (sh:=eI) (Wm x0) fun v0=>(kEr (enc:=eB) (decide (0≤v0)))) h)
def Uz(s:Q1)(u:Unit)(o:Bool):List Alt:=jb o (fun b=>[.ptr 0 0 0,.bool b]) [.cells 0 (Q5 s).cells]
def Ma(x0:Q1):Option Bool:=
 some ()>>=fun v0=>
 (DZ x0.fOp>>=fun v2=>
 some (List.length x0.ff:Int)>>=fun v3=>
 if v3 !=v2 then
 some true
 else
 some (List.length x0.fe:Int)>>=fun v4=>
 if 6<v4 then
 some true
 else
 some false)>>=fun v1=>if v1 then
 some false
 else
 Xz x0.fe>>=fun v7=>
 some (!v7)
theorem Q02(x0 r)(h:Ma x0=some r):PU 231 [Q5 x0] (eB r):=
 Pu2 (hs:=[(5,.n eI 5 none),(8,.c eI),(9,.split),(13,.n eI 13 none),(14,.split),(18,.c eB),(5000001,.l [] [] [] [1,15] [kk 1] (Uz x0))]) ((kJb (id:=5000001) () (fun v0 a3 v1=>(kC (sh:=eI) (Sc x0.fOp) fun v2=>(kN _ (mLen (sh:=Qi) x0.ff) fun v3=>(kIf (c:=v3 !=v2) (kXj (alts:=Uz x0) a3 true (.here () rfl (.refl _) (.refl _)))
 (kN _ (mLen (sh:=Q2) x0.fe) fun v4=>(kIfD (p:=6<v4) (kXj (alts:=Uz x0) a3 true (.here () rfl (.refl _) (.refl _)))
 (kXj (alts:=Uz x0) a3 false (.next (.here () rfl (.refl _) (.refl _))))))))))
 (fun v0=>(kEr (enc:=eB) false))
 (fun v0=>(kC (sh:=eB) (Cl x0.fe) fun v7=>(kEr (enc:=eB) (!v7))))) h)
end Go.Proofs.YtkgphhemcglgnaaGreatDoor
end
section
namespace Go.Proofs.YtkgphhemcglgnaaGreatDoor
open Go HY
set_option maxRecDepth 1000000
abbrev NxR(f r n:Nat)(ks:List Nat)(vs:List AV)(alts:List Alt)(xs:List (List AV))(bs:List Box):Prop:=NxtR Tryz.prog gls [] n (rng Tryz.prog f (r+1)).1 (rng Tryz.prog f (r+1)).2.1 (rng Tryz.prog f (r+1)).2.2 ks vs alts xs bs
section
variable {ρ : Type} {r : ρ}
theorem kIfE{c:Bool}{x y:Option ρ}{A B:Prop}(hA:c=true→x=some r→A)(hB:y=some r→B)(h:(if c=true then x else y)=some r):(c=true→A)∧(c=false→B):=by
 cases c with
 |true=>exact⟨fun _=>hA rfl h,nofun⟩
 |false=>exact⟨nofun,fun _=>hB h⟩
theorem kRg{α υ:Type}{x:Option α}{k:α→Option ρ}{IT:List (List AV)→Prop}{R:List (List AV)→υ→α→Prop}{A:α→Prop}(xs:List (List AV))(u:υ)(a3:IT xs)(hR:∀v,x=some v→R xs u v)(hA:∀v,k v=some r→A v)(h:(x>>=k)=some r):∃xs u o,IT xs∧R xs u o∧A o:=by
 cases x with
 |none=>cases h
 |some v=>exact⟨xs,u,v,a3,hR v rfl,hA v h⟩
theorem kNx{f r' n:Nat}{ks:List Nat}{vs:List AV}{α:Type}{alts:α→List Alt}{xs:List (List AV)}{bs:List Box}{x:Option α}{o:α}(hR:∀o,x=some o→RG f r' n ks vs (alts o) xs bs)(h:x=some o):LeVs vs vs∧NxR f r' n ks vs (alts o) xs bs:=⟨.refl _,⟨bs,.refl _,hR o h⟩⟩
theorem kOt{α:Type}{alts:α→List Alt}{e:Exit}{vs:List AV}{bs:List Box}{o:α}(v:α)(hO:Out (alts v) e vs bs)(h:some v=some o):LeVs vs vs∧Out (alts o) e vs bs:=by cases h;exact⟨.refl _,hO⟩
end
def Wd(u:Unit)(o:Int):List Alt:=[⟨fun(x:Int)=>x=o,.normal,fun x=>[.ptr 0 0 0],fun x=>[.cells 0 [.int .i64 x]]⟩,⟨fun(x:Int)=>x=o,.exit 0,fun x=>[.ptr 0 0 0],fun x=>[.cells 0 [.int .i64 x]]⟩]
noncomputable def Gm:List Qa→Int→Option Int
 | [],c=>some c
 |e::t,c=>some (wr (c+1))>>=fun n=>if(2000:Int)<n then some n else Gm t n
theorem HW:∀(l:List Qa) (c o:Int),Gm l c=some o→RG 199 3 12 [3] [.ptr 0 0 0] (Wd () o) (l.map fun y=>[Q5 y.f]) [.cells 0 [.int .i64 c]]
 | [],c,o,h=>by
  cases h;exact Rg0 rfl (.here _ rfl (.refl _) (.refl _))
 |e::t,c,o,h=>Rg1 (hs:=[(8,.n eI 8 none),(10,.split)]) (kb:=[{slot:=3}]) (kbx:=[{slot:=3}]) (by kernel_rfl) (by kernel_rfl)
  (kN _ (rfl:wr (c+1)=_) (fun n=>kIfD (p:=(2000:Int)<n) (kOt (alts:=Wd ()) n (.next (.here _ rfl (.refl _) (.refl _)))) (kNx (f:=199) (r':=3) (n:=12) (ks:=[3]) (vs:=[.ptr 0 0 0]) (alts:=Wd ()) (xs:=t.map fun y=>[Q5 y.f]) (bs:=[.cells 0 [.int .i64 n]]) (HW t n))) h)
noncomputable def M9(x0:Q1):Option Int:=UJ x0>>=fun w=>Gm (Qy (.mk w.1)) 0>>=fun v=>some v
theorem Q01(x0:Q1)(r:Int)(h:M9 x0=some r):PU 199 [Q5 x0] (eI r):=
 Pu1 (hs:=[(5,.c NC),(4000004,.l [] [3] [{slot:=3}] [3] [{slot:=3}] Wd)]) (by kernel_rfl)
  (kC (sh:=NC) (Mc x0) (fun w=>kRg (IT:=fun xs=>ItOk Tryz.prog gls 139 [.ip 13 [Q5 w.1] 0 0] xs) (R:=fun xs (u:Unit) o=>RG 199 3 12 [3] [.ptr 0 0 0] (Wd u o) xs [.cells 0 [.int .i64 0]]) (A:=fun o=>(∀x:Int,x=o→LeT (eI x) (eI r))∧∀x:Int,x=o→LeT (eI x) (eI r)) _ () (R9 w) (HW _ 0)
   (fun v h=>by cases h;exact⟨fun x e=>by subst e;exact .refl _,fun x e=>by subst e;exact .refl _⟩)) h)
def XB(i:Q7):List gLin:=i.fj::i.fAt
def UG(x:Q1):List gLin:=x.fj::(x.fe.map XB).flatten
abbrev SD:= {x:Q1//x.fe.length≤4611686018427387904∧∀i∈x.fe,i.fAt.length≤4611686018427387904}
def Rc(x:SD):AV:=.fn 286 [.ip 13 [Q5 x.1] 0 0]
theorem fr_in{l:Nat}{xs:List (List AV)}{m n:Nat}{b:List Q7}{nb ib:Int}{a:List gLin}(hn:a.length=n)(a4:n≤4611686018427387904):
  ∀(t p:List gLin) (k:Nat),a=p++t→k+t.length=m→(∀(j:Nat) (y:gLin),t[j]? =some y→xs[k+j]? =some [Qe y])→
   JLo 286 6 37 l xs [0,13,14,15,25,26,27] [yvl l,.sl 4 (b.map Q2),.int .i64 nb,.int .i64 ib,.sl 2 (a.map Qe),.int .i64 n,.int .i64 p.length] [] (some k) [0,13,14,15] (.exit 2,[yvl l,.sl 4 (b.map Q2),.int .i64 nb,.int .i64 ib]) (.ret,[yvl l,.sl 4 (b.map Q2),.int .i64 nb,.int .i64 ib]) m
 |t,p,k,ha,hm,hx=>by
  refine JL1 (φ:=(decide ((p.length:Int)<n)=true→∃x:gLin,((0:Int)≤p.length∧(a.map Qe)[Int.toNat p.length]? =some (Qe x))∧l=l∧xs[k]? =some [Qe x]∧
   NxtJ Tryz.prog gls l xs 37 (Uj Tryz.prog 286 (6+1)) [0,13,14,15,25,26,27] [0,13,14,15] (.exit 2,[yvl l,.sl 4 (b.map Q2),.int .i64 nb,.int .i64 ib]) (.ret,[yvl l,.sl 4 (b.map Q2),.int .i64 nb,.int .i64 ib]) m [yvl l,.sl 4 (b.map Q2),.int .i64 nb,.int .i64 ib,.sl 2 (a.map Qe),.int .i64 n,.int .i64 (wr ((p.length:Int)+1))] [] (some (k+1))∧
   JO (.exit 2,[yvl l,.sl 4 (b.map Q2),.int .i64 nb,.int .i64 ib]) (.ret,[yvl l,.sl 4 (b.map Q2),.int .i64 nb,.int .i64 ib]) m .ret none [yvl l,.sl 4 (b.map Q2),.int .i64 nb,.int .i64 ib] [])∧
   (decide ((p.length:Int)<n)=false→JO (.exit 2,[yvl l,.sl 4 (b.map Q2),.int .i64 nb,.int .i64 ib]) (.ret,[yvl l,.sl 4 (b.map Q2),.int .i64 nb,.int .i64 ib]) m (.exit 2) (some k) [yvl l,.sl 4 (b.map Q2),.int .i64 nb,.int .i64 ib] []))
   (hs:=[(28,.split),(29,.e Qe)]) (js:=[]) (kb:=[]) (by kernel_rfl) (by kernel_rfl) ⟨fun h=> ?_,fun h=> ?_⟩
  ·have h:=of_decide_eq_true h;cases t with
   |nil=>subst ha;simp at hn;omega
   |cons e t=>
    have a5:p.length<a.length:=by rw[ha];simp
    refine⟨e,⟨by omega,?_⟩,rfl,hx 0 e rfl,⟨_,_,?_,.refl _,fr_in hn a4 t (p++[e]) (k+1) (by rw[ha];simp) (by rw[← hm];simp;omega) (fun j y hj=> ?_)⟩,.b rfl rfl rfl⟩
    ·rw[List.getElem?_map,ha,Int.toNat_natCast,List.getElem?_append_right (Nat.le_refl _)];simp
    ·rw[show wr ((p.length:Int)+1)=((p++[e]).length:Int) by rw[ZB (by omega)];simp]
     exact .refl _
    ·rw[show k+1+j=k+(j+1) by omega]
     exact hx (j+1) y (by simpa using hj)
  ·have h:=of_decide_eq_false h;cases t with
   |nil=>exact .a rfl (by rw[← hm];rfl) rfl
   |cons e t=>rw[ha] at hn;simp at hn;omega
theorem fr_out{l:Nat}{xs:List (List AV)}{m n:Nat}{b:List Q7}(hn:b.length=n)(a7:n≤4611686018427387904)(hA:∀i∈b,i.fAt.length≤4611686018427387904):
  ∀(t p:List Q7) (k:Nat),b=p++t→k+((t.map XB).flatten).length=m→(∀(j:Nat) (y:gLin),((t.map XB).flatten)[j]? =some y→xs[k+j]? =some [Qe y])→
   JLo 286 2 37 l xs [0,13,14,15] [yvl l,.sl 4 (b.map Q2),.int .i64 n,.int .i64 p.length] [] (some k) [] (.exit 0,[]) (.ret,[]) m
 |t,p,k,ha,hm,hx=>by
  refine JL1 (φ:=(decide ((p.length:Int)<n)=true→∃x:Q7,((0:Int)≤p.length∧(b.map Q2)[Int.toNat p.length]? =some (Q2 x))∧l=l∧xs[k]? =some [Qe x.fj]∧
   (∃q,JLo 286 6 37 l xs [0,13,14,15,25,26,27] [yvl l,.sl 4 (b.map Q2),.int .i64 n,.int .i64 p.length,.sl 2 (x.fAt.map Qe),.int .i64 ((x.fAt.map Qe).length:Nat),.int .i64 0] [] (some (k+1)) [0,13,14,15] (.exit 2,[yvl l,.sl 4 (b.map Q2),.int .i64 n,.int .i64 p.length]) (.ret,[yvl l,.sl 4 (b.map Q2),.int .i64 n,.int .i64 p.length]) q∧
    NxtJ Tryz.prog gls l xs 37 (Uj Tryz.prog 286 (2+1)) [0,13,14,15] [] (.exit 0,[]) (.ret,[]) m [yvl l,.sl 4 (b.map Q2),.int .i64 n,.int .i64 (wr ((p.length:Int)+1))] [] (some q)∧
    JO (.exit 0,[]) (.ret,[]) m .ret none [] [])∧
   JO (.exit 0,[]) (.ret,[]) m .ret none [] [])∧
   (decide ((p.length:Int)<n)=false→JO (.exit 0,[]) (.ret,[]) m (.exit 0) (some k) [] []))
   (hs:=[(16,.split),(17,.e Q2)]) (js:=[(7,⟨[0,13,14,15,25,26,27],[],[0,13,14,15],(.exit 2,[yvl l,.sl 4 (b.map Q2),.int .i64 n,.int .i64 p.length]),(.ret,[yvl l,.sl 4 (b.map Q2),.int .i64 n,.int .i64 p.length])⟩)]) (kb:=[]) (by kernel_rfl) (by kernel_rfl) ⟨fun h=> ?_,fun h=> ?_⟩
  ·have h:=of_decide_eq_true h;cases t with
   |nil=>subst ha;simp at hn;omega
   |cons e t=>
    have a8:p.length<b.length:=by rw[ha];simp
    have a5:=hA e (by rw[ha];simp)
    have a6:(((e::t).map XB).flatten)=e.fj::(e.fAt++(t.map XB).flatten):=by simp[XB]
    rw[a6] at hm hx;refine⟨e,⟨by omega,?_⟩,rfl,hx 0 _ rfl,⟨k+1+e.fAt.length,?_,⟨_,_,?_,.refl _,fr_out hn a7 hA t (p++[e]) (k+1+e.fAt.length) (by rw[ha];simp) (by rw[← hm];simp;omega) (fun j y hj=> ?_)⟩,.b rfl rfl rfl⟩,.b rfl rfl rfl⟩
    ·rw[List.getElem?_map,ha,Int.toNat_natCast,List.getElem?_append_right (Nat.le_refl _)];simp
    ·rw[List.length_map];exact fr_in (ib:=p.length) (nb:=n) rfl a5 e.fAt [] (k+1) rfl rfl (fun j y hj=>by
      rw[show k+1+j=k+(j+1) by omega]
      refine hx (j+1) y ?_;rw[List.getElem?_cons_succ,List.getElem?_append_left (List.getElem?_eq_some_iff.1 hj).1];exact hj)
    ·rw[show wr ((p.length:Int)+1)=((p++[e]).length:Int) by rw[ZB (by omega)];simp]
     exact .refl _
    ·rw[show k+1+e.fAt.length+j=k+(e.fAt.length+j+1) by omega]
     refine hx _ y ?_;rw[List.getElem?_cons_succ,List.getElem?_append_right (Nat.le_add_right _ _),Nat.add_sub_cancel_left];exact hj
  ·have h:=of_decide_eq_false h;cases t with
   |nil=>exact .a rfl (by rw[← hm];rfl) rfl
   |cons e t=>rw[ha] at hn;simp at hn;omega
theorem Q53(x:SD):ItOk Tryz.prog gls 286 [.ip 13 [Q5 x.1] 0 0] ((UG x.1).map fun y=>[Qe y]):=
 ItOk.of (Ko (by kernel_rfl)) false fun l=>by
  have hx:∀(j:Nat) (y:gLin),(UG x.1)[j]? =some y→((UG x.1).map fun y=>[Qe y])[j]? =some [Qe y]:=fun j y hj=>by rw[List.getElem?_map,hj];rfl
  generalize hxs:((UG x.1).map fun y=>[Qe y])=xs at*
  have hl:xs.length=1+((x.1.fe.map XB).flatten).length:=by rw[← hxs,List.length_map];simp only[UG,List.length_cons];omega
  refine JF1 (φ:=l=l∧xs[0]? =some [Qe x.1.fj]∧(∃q,JLo 286 2 37 l xs [0,13,14,15] [yvl l,.sl 4 (x.1.fe.map Q2),.int .i64 ((x.1.fe.map Q2).length:Nat),.int .i64 0] [] (some 1) [] (.exit 0,[]) (.ret,[]) q∧JQ false xs.length (.tup []) (some q)∧JQ false xs.length (.tup []) none)∧JQ false xs.length (.tup []) none)
   (hs:=[]) (js:=[(3,⟨[0,13,14,15],[],[],(.exit 0,[]),(.ret,[])⟩)]) (by kernel_rfl) ⟨rfl,hx 0 _ rfl,⟨1+((x.1.fe.map XB).flatten).length,?_,⟨rfl,.inl (by rw[hl])⟩,⟨rfl,.inr rfl⟩⟩,⟨rfl,.inr rfl⟩⟩
  rw[List.length_map];exact fr_out rfl x.2.1 x.2.2 x.1.fe [] 1 rfl rfl (fun j y hj=>by
   rw[Nat.add_comm 1 j];exact hx (j+1) y (by rw[UG,List.getElem?_cons_succ];exact hj))
open Classical in
noncomputable def Nf(x0:Q1):Option SD:=if h:x0.fe.length≤4611686018427387904∧∀i∈x0.fe,i.fAt.length≤4611686018427387904 then some ⟨x0,h⟩ else none
theorem Br(x:Q1)(h:x.fe.length≤4611686018427387904∧∀i∈x.fe,i.fAt.length≤4611686018427387904):Nf x=some ⟨x,h⟩:=dif_pos h
theorem PS(x0:Q1)(r:SD)(h:Nf x0=some r):PU 234 [Q5 x0] (Rc r):=by
 unfold Nf at h;split at h
 ·cases h;exact Pu1 (φ:=LeT (.fn 286 [.ip 13 [Q5 x0] 0 0]) (.fn 286 [.ip 13 [Q5 x0] 0 0])) (hs:=[]) (by kernel_rfl) (.refl _)
 ·cases h
def J3(u:Unit)(o:Bool):List Alt:=[⟨fun(x:Unit)=>o=true,.normal,fun x=>[.ptr 0 0 0],fun x=>[.cells 0 [.int .i64 0]]⟩,⟨fun(x:Unit)=>o=false,.ret,fun x=>[.ptr 0 0 0],fun x=>[.cells 0 [.int .i64 1]]⟩]
noncomputable def JP:List gLin→Option Bool
 | []=>some true
 |e::t=>CF e>>=fun v=>if(v !=(0:Int))=true then some false else JP t
theorem Mp:∀(l:List gLin) (o:Bool),JP l=some o→RG 200 12 38 [2] [.ptr 0 0 0] (J3 () o) (l.map fun y=>[Qe y]) [.cells 0 [.int .i64 0]]
 | [],o,h=>by
  cases h;exact Rg0 rfl (.here () rfl (.refl _) (.refl _))
 |e::t,o,h=>Rg1 (hs:=[(36,.c eI),(37,.split)]) (kb:=[{slot:=2}]) (kbx:=[{slot:=2}]) (by kernel_rfl) (by kernel_rfl)
  (kC (sh:=eI) (AC e) (fun v=>kIf (c:=v !=(0:Int)) (kOt (alts:=J3 ()) false (.next (.here () rfl (.refl _) (.refl _)))) (kNx (f:=200) (r':=12) (n:=38) (ks:=[2]) (vs:=[.ptr 0 0 0]) (alts:=J3 ()) (xs:=t.map fun y=>[Qe y]) (bs:=[.cells 0 [.int .i64 0]]) (Mp t))) h)
noncomputable def JR(x0:Q1):Option Int:=Nf x0>>=fun w=>JP (UG w.1)>>=fun v=>some (if v then 0 else 1)
noncomputable def Dt(x0:Q1):Option Int:=
 Wy x0>>=fun v0=>if v0=true then(Ng x0>>=fun v1=>if v1=true then(Ma x0>>=fun v2=>if v2=true then(Ni x0>>=fun v3=>if v3=true then
  (if(x0.fOp==(1:Int))=true then WK x0.fd x0.fx>>=fun v4=>if v4=true then JR x0 else some 1 else JR x0)
  else some 10) else some 11) else some 7) else some 5
theorem Lt(x0:Q1)(r:Int)(h:JR x0=some r):∃w,PU 234 [Q5 x0] (Rc w)∧∃xs u o,ItOk Tryz.prog gls 286 [.ip 13 [Q5 w.1] 0 0] xs∧RG 200 12 38 [2] [.ptr 0 0 0] (J3 u o) xs [.cells 0 [.int .i64 0]]∧(∀x:Unit,o=true→LeT (eI 0) (eI r))∧∀x:Unit,o=false→LeT (eI 1) (eI r):=
 kC (sh:=Rc) (PS x0) (fun w=>kRg (IT:=fun xs=>ItOk Tryz.prog gls 286 [.ip 13 [Q5 w.1] 0 0] xs) (R:=fun xs (u:Unit) o=>RG 200 12 38 [2] [.ptr 0 0 0] (J3 u o) xs [.cells 0 [.int .i64 0]]) (A:=fun o=>(∀x:Unit,o=true→LeT (eI 0) (eI r))∧∀x:Unit,o=false→LeT (eI 1) (eI r)) _ () (Q53 w) (Mp _)
   (fun v h=>by cases h;exact⟨fun x e=>by subst e;exact .refl _,fun x e=>by subst e;exact .refl _⟩)) h
theorem Tn(x0:Q1)(r:Int)(h:Dt x0=some r):PU 200 [Q5 x0] (eI r):=
 Pu1 (hs:=[(6,.cb),(10,.cb),(14,.cb),(18,.cb),(23,.split),(29,.cb),(33,.c Rc),(4000013,.l [] [2] [{slot:=2}] [2] [{slot:=2}] J3)]) (by kernel_rfl)
  (kCb (FQ x0) (kCb (PT x0) (kCb (Q02 x0) (kCb (PV x0) (kIf (c:=x0.fOp==(1:Int)) (kCb (Pa x0.fd x0.fx) (Lt x0 r) (kEr (enc:=eI) 1)) (Lt x0 r))
   (kEr (enc:=eI) 10)) (kEr (enc:=eI) 11)) (kEr (enc:=eI) 7)) (kEr (enc:=eI) 5) h)
def Gt(u:Unit)(o:Int):List Alt:=[⟨fun(x:Unit)=>o=0,.normal,fun x=>[.ptr 0 0 0],fun x=>[.cells 0 [.int .i64 0]]⟩,⟨fun(x:Unit)=>¬o=0,.ret,fun x=>[.ptr 0 0 0],fun x=>[.cells 0 [.int .i64 o]]⟩]
noncomputable def Ur:List Qa→Option Int
 | []=>some 0
 |e::t=>Dt e.f>>=fun v=>if(v !=(0:Int))=true then some v else Ur t
theorem MV:∀(l:List Qa) (o:Int),Ur l=some o→RG 171 6 19 [2] [.ptr 0 0 0] (Gt () o) (l.map fun y=>[Q5 y.f]) [.cells 0 [.int .i64 0]]
 | [],o,h=>by
  cases h;exact Rg0 rfl (.here () rfl (.refl _) (.refl _))
 |e::t,o,h=>Rg1 (hs:=[(15,.c eI),(17,.split)]) (kb:=[{slot:=2}]) (kbx:=[{slot:=2}]) (by kernel_rfl) (by kernel_rfl)
  (kC (sh:=eI) (Tn e.f) (fun v=>kIfE (c:=v !=(0:Int)) (fun hc=>kOt (alts:=Gt ()) v (.next (.here () (by simpa using hc) (.refl _) (.refl _)))) (kNx (f:=171) (r':=6) (n:=19) (ks:=[2]) (vs:=[.ptr 0 0 0]) (alts:=Gt ()) (xs:=t.map fun y=>[Q5 y.f]) (bs:=[.cells 0 [.int .i64 0]]) (MV t))) h)
noncomputable def DY(x0:Q1):Option Int:=
 Ls x0>>=fun v0=>if(40:Int)<v0 then some 13 else M9 x0>>=fun v1=>if(2000:Int)<v1 then some 2 else UJ x0>>=fun w=>Ur (Qy (.mk w.1))>>=fun v=>some v
theorem Sb(x0:Q1)(r:Int)(h:DY x0=some r):PU 171 [Q5 x0] (eI r):=
 Pu1 (hs:=[(6,.c eI),(7,.split),(9,.c eI),(10,.split),(12,.c NC),(4000007,.l [] [2] [{slot:=2}] [2] [{slot:=2}] Gt)]) (by kernel_rfl)
  (kC (sh:=eI) (PQ x0) (fun v0=>kIfD (p:=(40:Int)<v0) (kEr (enc:=eI) 13) (kC (sh:=eI) (Q01 x0) (fun v1=>kIfD (p:=(2000:Int)<v1) (kEr (enc:=eI) 2)
   (kC (sh:=NC) (Mc x0) (fun w=>kRg (IT:=fun xs=>ItOk Tryz.prog gls 139 [.ip 13 [Q5 w.1] 0 0] xs) (R:=fun xs (u:Unit) o=>RG 171 6 19 [2] [.ptr 0 0 0] (Gt u o) xs [.cells 0 [.int .i64 0]]) (A:=fun o=>(∀x:Unit,o=0→LeT (eI 0) (eI r))∧∀x:Unit,¬o=0→LeT (eI o) (eI r)) _ () (R9 w) (MV _)
    (fun v h=>by cases h;exact⟨fun x e=>by subst e;exact .refl _,fun x e=>.refl _⟩)))))) h)
def hCk(c:Q3):AV:=.ip 5 [EB c] 0 0
def XM(s:Q1×Q3)(u:Unit)(o:Int):List Alt:=[⟨fun(x:Unit)=>o=0,.normal,fun x=>[.ip 1 [.agg [hCk s.2]] 0 0,.ptr 0 0 0,.ptr 1 0 0,.ptr 2 0 0],fun x=>[.cells 0 (Q5 s.1).cells,.cells 0 (Qf ⟨0,0,0,0,0⟩).cells,.cells 0 [.int .i64 0]]⟩,
 ⟨fun(x:Unit)=>¬o=0,.ret,fun x=>[.ip 1 [.agg [hCk s.2]] 0 0,.ptr 0 0 0,.ptr 1 0 0,.ptr 2 0 0],fun x=>[.cells 0 (Q5 s.1).cells,.cells 0 (Qf ⟨0,0,0,0,0⟩).cells,.cells 0 [.int .i64 o]]⟩]
noncomputable def Xi(c:Q3):List Qa→Option Int
 | []=>some 0
 |e::t=>VV c e.f>>=fun v=>if(v !=(0:Int))=true then some v else Xi c t
theorem Ge(c:Q3)(x:Q1):∀(l:List Qa) (o:Int),Xi c l=some o→RG 162 5 30 [2,3,4,5] [.ip 1 [.agg [hCk c]] 0 0,.ptr 0 0 0,.ptr 1 0 0,.ptr 2 0 0] (XM (x,c) () o) (l.map fun y=>[Q5 y.f]) [.cells 0 (Q5 x).cells,.cells 0 (Qf ⟨0,0,0,0,0⟩).cells,.cells 0 [.int .i64 0]]
 | [],o,h=>by
  cases h;exact Rg0 rfl (.here () rfl (.refl _) (.refl _))
 |e::t,o,h=>Rg1 (hs:=[(20,.c eI),(22,.split)]) (kb:=[{slot:=3},{slot:=4},{slot:=5}]) (kbx:=[{slot:=3},{slot:=4},{slot:=5}]) (by kernel_rfl) (by kernel_rfl)
  (kC (sh:=eI) (LZ c e.f) (fun v=>kIfE (c:=v !=(0:Int)) (fun hc=>kOt (alts:=XM (x,c) ()) v (.next (.here () (by simpa using hc) (.refl _) (.refl _)))) (kNx (f:=162) (r':=5) (n:=30) (ks:=[2,3,4,5]) (vs:=[.ip 1 [.agg [hCk c]] 0 0,.ptr 0 0 0,.ptr 1 0 0,.ptr 2 0 0]) (alts:=XM (x,c) ()) (xs:=t.map fun y=>[Q5 y.f]) (bs:=[.cells 0 (Q5 x).cells,.cells 0 (Qf ⟨0,0,0,0,0⟩).cells,.cells 0 [.int .i64 0]]) (Ge c x t))) h)
noncomputable def ZU(c:Q3)(x:Q1):Option (Qc×Int):=
 DY x>>=fun v0=>if(v0 !=(0:Int))=true then some (⟨0,0,0,0,0⟩,v0) else UJ x>>=fun w=>Xi c (Qy (.mk w.1))>>=fun v=>if v=0 then Zq c x>>=fun q=>some (q.1,q.2) else some (⟨0,0,0,0,0⟩,v)
theorem kSelP{r:Qc×Int}{p:Prop} [Decidable p] {x:Option (Qc×Int)} {y:Qc×Int} {A:Prop} (hA:x=some r→A) (h:(if p then x else some y)=some r):(Unit→p→A)∧(Unit→¬p→LeT (Qm y) (Qm r)):=by
 by_cases hp:p;·rw[if_pos hp] at h;exact⟨fun _ _=>hA h,fun _ e=>absurd hp e⟩
 ·rw[if_neg hp] at h;cases h;exact⟨fun _ e=>absurd e hp,fun _ _=>.refl _⟩
theorem VR(c:Q3)(x:Q1)(r:Qc×Int)(h:ZU c x=some r):PU 162 [hCk c,Q5 x] (Qm r):=
 Pu1 (hs:=[(3,.z [{slot:=2,fz:=true}] none),(10,.c eI),(12,.split),(16,.c NC),(4000006,.l [] [2,3,4,5] [{slot:=3},{slot:=4},{slot:=5}] [2,3,4,5] [{slot:=3},{slot:=4},{slot:=5}] (XM (x,c))),(27,.c Qm)]) (by kernel_rfl)
  (kC (sh:=eI) (Sb x) (fun v0=>kIf (c:=v0 !=(0:Int)) (kEr (enc:=Qm) (⟨0,0,0,0,0⟩,v0))
   (kC (sh:=NC) (Mc x) (fun w=>kRg (IT:=fun xs=>ItOk Tryz.prog gls 139 [.ip 13 [Q5 w.1] 0 0] xs) (R:=fun xs (u:Unit) o=>RG 162 5 30 [2,3,4,5] [.ip 1 [.agg [hCk c]] 0 0,.ptr 0 0 0,.ptr 1 0 0,.ptr 2 0 0] (XM (x,c) u o) xs [.cells 0 (Q5 x).cells,.cells 0 (Qf ⟨0,0,0,0,0⟩).cells,.cells 0 [.int .i64 0]])
    (A:=fun o=>(Unit→o=0→∃q,PU 195 [hCk c,Q5 x] (Qm q)∧LeT (Qm q) (Qm r))∧(Unit→¬o=0→LeT (Qm (⟨0,0,0,0,0⟩,o)) (Qm r))) _ () (R9 w) (Ge c x _)
    (fun v=>kSelP (kC (sh:=Qm) (L1 c x) (fun q=>kEr (enc:=Qm) (q.1,q.2))))))) h)
end Go.Proofs.YtkgphhemcglgnaaGreatDoor
end
noncomputable section
namespace Go.Proofs.YtkgphhemcglgnaaGreatDoor
open Go HY
set_option maxRecDepth 1000000
def X4(s:(Q3×Qg))(u:Qc)(o:Bool):List Alt:=jb o (fun b=>[.ip 5 [.agg [.sl 8 (List.map Q4 (s.1).fi.fc),.sl 20 (List.map Q6 (s.1).fi.fb),.sl 1 (List.map eS (s.1).fp),.sl 1 (List.map eS (s.1).fh),.sl 1 (List.map eI (s.1).fq)]] 0 0,.ptr 0 0 0,.ptr 1 0 0,.bool b]) [.cells 0 (Qp (s.2)).cells,.cells 0 (Qf u).cells]
def Y9(s:Unit)(u:Unit)(o:Bool):List Alt:=jb o (fun b=>[.bool b]) []
def Vz(x0:Q3)(x1:Qg):Option Int:=
 some ((QS.mk (3:Int) x1.fa (gVal.mk (0:Int) (0:Int)) (Qc.mk (0:Int) (0:Int) (0:Int) (0:Int) (0:Int)) (gLin.mk (0:Int) []) x1.fe []:Q1))>>=fun v0=>
 ZU x0 v0>>=fun v1=>
 if v1.snd !=0 then
 some v1.snd
 else
 YP x0.fi x1.fa>>=fun v2=>
 if v2.fst.fF==1 then
 some (1:Int)
 else
 some v1.fst>>=fun v3=>
 (if x1.fOp==3 then
 if x1.fA<1 then
 some true
 else
 if 4<x1.fA then
 some true
 else
 some false
 else
 some false)>>=fun v4=>if v4 then
 some (1:Int)
 else
 ZU x0 x1.fg>>=fun v7=>
 if v7.snd !=0 then
 some v7.snd
 else
 some ()>>=fun v8=>
 (Kh x1.fg>>=fun a7=>if a7 then
 some true
 else
 if !(v7.fst.fk==v3.fk&& (v7.fst.fm==v3.fm&& (v7.fst.fv==v3.fv&& (v7.fst.fo==v3.fo&& (v7.fst.fw==v3.fw&&true))))) then
 some true
 else
 some false)>>=fun v9=>if v9 then
 some (10:Int)
 else
 some (0:Int)
theorem Ly(x0 x1 r)(h:Vz x0 x1=some r):PU 164 [.ip 5 [.agg [.sl 8 (List.map Q4 x0.fi.fc),.sl 20 (List.map Q6 x0.fi.fb),.sl 1 (List.map eS x0.fp),.sl 1 (List.map eS x0.fh),.sl 1 (List.map eI x0.fq)]] 0 0,Qp x1] (eI r):=
 Pu2 (hs:=[(16,.n Q5 16 none),(17,.c Qm),(21,.split),(30,.c QE),(35,.split),(38,.split),(42,.split),(46,.split),(53,.c Qm),(57,.split),(61,.cb),(65,.split),(5000007,.l [] [] [] [0,3,5,48] [kk 3,kk 5] (X4 (x0,x1))),(5000012,.l [] [] [] [66] [] (Y9 ()))]) ((kW (sh:=Q5) (QS.mk (3:Int) x1.fa (gVal.mk (0:Int) (0:Int)) (Qc.mk (0:Int) (0:Int) (0:Int) (0:Int) (0:Int)) (gLin.mk (0:Int) []) x1.fe []:Q1) (LeV.agg (.cons lr (.cons lr (.cons lr (.cons lr (.cons lr (.cons lr (.cons lr (.cons lr (.cons lr (.cons lr (.cons (LeV.nil 2) (.cons lr (.cons (LeV.nil 13) .nil)))))))))))))) fun v0=>(kC (sh:=Qm) (VR x0 v0) fun v1=>(kIf (c:=v1.snd !=0) (kEr (enc:=eI) v1.snd)
 (kC (sh:=QE) (Us x0.fi x1.fa) fun v2=>(kIf (c:=v2.fst.fF==1) (kEr (enc:=eI) (1:Int))
 (kJb (id:=5000007) v1.fst (fun v3 a3 v4=>(kIf (c:=x1.fOp==3) (kIfD (p:=x1.fA<1) (kXj (alts:=X4 (x0,x1)) a3 true (.here () rfl (.refl _) (.refl _)))
 (kIfD (p:=4<x1.fA) (kXj (alts:=X4 (x0,x1)) a3 true (.here () rfl (.refl _) (.refl _)))
 (kXj (alts:=X4 (x0,x1)) a3 false (.next (.here () rfl (.refl _) (.refl _))))))
 (kXj (alts:=X4 (x0,x1)) a3 false (.next (.here () rfl (.refl _) (.refl _))))))
 (fun v3=>(kEr (enc:=eI) (1:Int)))
 (fun v3=>(kC (sh:=Qm) (VR x0 x1.fg) fun v7=>(kIf (c:=v7.snd !=0) (kEr (enc:=eI) v7.snd)
 (kJb (id:=5000012) () (fun v8 a4 v9=>(kCb (GD x1.fg) (kXj (alts:=Y9 ()) a4 true (.here () rfl (.refl _) (.refl _)))
 (kIf (c:= !(v7.fst.fk==v3.fk&& (v7.fst.fm==v3.fm&& (v7.fst.fv==v3.fv&& (v7.fst.fo==v3.fo&& (v7.fst.fw==v3.fw&&true)))))) (kXj (alts:=Y9 ()) a4 true (.here () rfl (.refl _) (.refl _)))
 (kXj (alts:=Y9 ()) a4 false (.next (.here () rfl (.refl _) (.refl _)))))))
 (fun v8=>(kEr (enc:=eI) (10:Int)))
 (fun v8=>(kEr (enc:=eI) (0:Int))))))))))))) h)
def Ky(x0:Q3)(x1:Qg):Option Int:=
 D7 x1>>=fun v0=>if v0 then
 if x1.fOp==1 then
 VU x0 x1>>=fun v1=>
 some v1
 else
 if x1.fOp==4 then
 ZU x0 x1.fg>>=fun v2=>
 if v2.snd !=0 then
 some v2.snd
 else
 Kh x1.fg>>=fun v3=>if v3 then
 some (0:Int)
 else
 some (10:Int)
 else
 Vz x0 x1>>=fun v4=>
 some v4
 else
 some (5:Int)
theorem NW(x0 x1 r)(h:Ky x0 x1=some r):PU 120 [.ip 5 [.agg [.sl 8 (List.map Q4 x0.fi.fc),.sl 20 (List.map Q6 x0.fi.fb),.sl 1 (List.map eS x0.fp),.sl 1 (List.map eS x0.fh),.sl 1 (List.map eI x0.fq)]] 0 0,Qp x1] (eI r):=
 Pu2 (hs:=[(8,.cb),(13,.split),(16,.c eI),(18,.split),(23,.c Qm),(27,.split),(31,.cb),(35,.c eI)]) ((kCb (RP x1) (kIf (c:=x1.fOp==1) (kC (sh:=eI) (LY x0 x1) fun v1=>(kEr (enc:=eI) v1))
 (kIf (c:=x1.fOp==4) (kC (sh:=Qm) (VR x0 x1.fg) fun v2=>(kIf (c:=v2.snd !=0) (kEr (enc:=eI) v2.snd)
 (kCb (GD x1.fg) (kEr (enc:=eI) (0:Int))
 (kEr (enc:=eI) (10:Int)))))
 (kC (sh:=eI) (Ly x0 x1) fun v4=>(kEr (enc:=eI) v4))))
 (kEr (enc:=eI) (5:Int))) h)
def QW(r:(Int×Q3)):AV:=eI r.1
def QU(r:(Int×Q3)):List Box:=[.cells 0 [.sl 8 (List.map Q4 r.2.fi.fc),.sl 20 (List.map Q6 r.2.fi.fb),.ow 1 0 1 (List.length r.2.fp),.ow 2 0 1 (List.length r.2.fh),.ow 3 0 1 (List.length r.2.fq)],.own 0 1 (List.map eS r.2.fp),.own 0 1 (List.map eS r.2.fh),.own 0 1 (List.map eI r.2.fq)]
def Zk(s:List Q0)(u:Int)(o:Q3 ⊕ (Q3×Int)):List Alt:=lp o (.exit 0) (fun _=>[.ptr 0 0 0,.undef]) (fun x=>[.cells 0 [.sl 8 (List.map Q4 x.fi.fc),.sl 20 (List.map Q6 x.fi.fb),.ow 1 0 1 (List.length x.fp),.ow 2 0 1 (List.length x.fh),.ow 3 0 1 (List.length x.fq)],.own 0 1 (List.map eS x.fp),.own 0 1 (List.map eS x.fh),.own 0 1 (List.map eI x.fq)]) .ret (fun x=>[.ptr 0 0 0,ii x.2]) (fun x=>[.cells 0 [.sl 8 (List.map Q4 x.1.fi.fc),.sl 20 (List.map Q6 x.1.fi.fb),.ow 1 0 1 (List.length x.1.fp),.ow 2 0 1 (List.length x.1.fh),.ow 3 0 1 (List.length x.1.fq)],.own 0 1 (List.map eS x.1.fp),.own 0 1 (List.map eS x.1.fh),.own 0 1 (List.map eI x.1.fq)])
def YT(s:((List Q0)×Int))(u:(Qg×Int×Int))(o:Q3):List Alt:=l1 o .normal (fun _=>[.ptr 0 0 0,.sl 20 (List.map Q6 (s.1)),.ptr 4 0 0,ii (u.2.1),ii (s.2),ii (u.2.2)]) (fun x=>[.cells 0 [.sl 8 (List.map Q4 x.fi.fc),.sl 20 (List.map Q6 x.fi.fb),.ow 1 0 1 (List.length x.fp),.ow 2 0 1 (List.length x.fh),.ow 3 0 1 (List.length x.fq)],.own 0 1 (List.map eS x.fp),.own 0 1 (List.map eS x.fh),.own 0 1 (List.map eI x.fq),.cells 0 (Qp (u.1)).cells])
mutual
def QV(x0:Q3)(x1:List Q0):Option (Int×Q3):=
 some (List.length x1:Int)>>=fun v0=>
 some v0>>=fun v1=>
 QF x0 x1 v0 0>>=fun v2=>(match v2 with
 | (.inl v3)=>
 some ((0:Int),v3)
 | (.inr v4)=>
 some (v4.snd,v4.fst))
 partial_fixpoint
def QF(x0:Q3)(x1:List Q0)(a8:Int)(a5:Int):Option (Q3 ⊕ (Q3×Int)):=
 if a5<a8 then
 Option.map Q0.f (ix x1 a5)>>=fun v0=>
 if(x0.fq.length+(1:Nat))*(8:Nat)≤(140737488355328:Nat)∧x0.fq.length+(1:Nat)≤(9223372036854775807:Nat) then
 some (x0.fq++[a5])>>=fun v1=>
 Ky (Q3.mk x0.fi x0.fp x0.fh v1) v0>>=fun v2=>
 if v2 !=0 then
 some (.inr ((Q3.mk x0.fi x0.fp x0.fh v1),v2))
 else
 some ((↑x0.fh.length:Int):Int)>>=fun v3=>
 some (v0,v3,a5)>>=fun v4=>
 (if v0.fOp==1 then
 if(x0.fp.length+(1:Nat))*(16:Nat)≤(140737488355328:Nat)∧x0.fp.length+(1:Nat)≤(9223372036854775807:Nat) then
 if(x0.fh.length+(1:Nat))*(16:Nat)≤(140737488355328:Nat)∧x0.fh.length+(1:Nat)≤(9223372036854775807:Nat) then
 some (Q3.mk x0.fi (x0.fp++[v0.fa]) (x0.fh++[v0.fa]) v1)
 else none
 else none
 else
 some (Q3.mk x0.fi x0.fp x0.fh v1))>>=fun v6=>
 QV v6 v4.fst.fb>>=fun v7=>
 if v7.fst !=0 then
 some (.inr (v7.snd,v7.fst))
 else
 if(0:Int)=(0:Int)∧0≤v4.snd.fst∧v4.snd.fst≤(↑v7.snd.fh.length:Int) then
 if List.length (List.take v4.snd.fst.toNat v7.snd.fh)=v4.snd.fst.toNat then
 some (List.take v4.snd.fst.toNat v7.snd.fh)>>=fun v8=>
 if(0:Int)=(0:Int)∧0≤wr ((↑v7.snd.fq.length:Int) - (1:Int))∧wr ((↑v7.snd.fq.length:Int) - (1:Int))≤(↑v7.snd.fq.length:Int) then
 some ((↑v7.snd.fq.length:Int):Int)>>=fun v9=>
 if List.length (List.take ((wr ((↑v7.snd.fq.length:Int) - (1:Int))).toNat) v7.snd.fq)=((wr ((↑v7.snd.fq.length:Int) - (1:Int))).toNat) then
 some (List.take ((wr ((↑v7.snd.fq.length:Int) - (1:Int))).toNat) v7.snd.fq)>>=fun aa=>
 QF (Q3.mk v7.snd.fi v7.snd.fp v8 aa) x1 a8 (wr (v4.snd.snd+1))
 else none
 else none
 else none
 else none
 else none
 else
 some (.inl x0)
 partial_fixpoint
end
theorem Nq:(∀(x0:Q3) (x1:List Q0) (r:(Int×Q3)),QV x0 x1=some r→PH 76 [.ptr 0 0 0,Qn x1] [.cells 0 [.sl 8 (List.map Q4 x0.fi.fc),.sl 20 (List.map Q6 x0.fi.fb),.ow 1 0 1 (List.length x0.fp),.ow 2 0 1 (List.length x0.fh),.ow 3 0 1 (List.length x0.fq)],.own 0 1 (List.map eS x0.fp),.own 0 1 (List.map eS x0.fh),.own 0 1 (List.map eI x0.fq)] (QW r) (QU r))∧(∀(x0:Q3) (x1:List Q0) (a5:Int) (a7:Int) (o:Q3 ⊕ (Q3×Int)),QF x0 x1 a5 a7=some o→LOp [.ptr 0 0 0] 76 2 96 [0,1,11,12] [.ptr 0 0 0,.sl 20 (List.map Q6 x1),ii a5,ii a7] [.cells 0 [.sl 8 (List.map Q4 x0.fi.fc),.sl 20 (List.map Q6 x0.fi.fb),.ow 1 0 1 (List.length x0.fp),.ow 2 0 1 (List.length x0.fh),.ow 3 0 1 (List.length x0.fq)],.own 0 1 (List.map eS x0.fp),.own 0 1 (List.map eS x0.fh),.own 0 1 (List.map eI x0.fq)] [0,4] (Zk x1 a5 o)):=
 QV.mutual_partial_correctness _ _
 (fun QF Q86 x0 x1 r h=>
 PuH2 (hs:=[(11,.n eI 11 none),(3000003,.l [] [0,1,11,12] [kk 0,{slot:=0,path:=[2],own:=1},{slot:=0,path:=[3],own:=1},{slot:=0,path:=[4],own:=1}] [0,4] [kk 0,{slot:=0,path:=[2],own:=1},{slot:=0,path:=[3],own:=1},{slot:=0,path:=[4],own:=1}] (Zk x1))]) (kb:=[kk 1,{slot:=1,path:=[2],own:=1},{slot:=1,path:=[3],own:=1},{slot:=1,path:=[4],own:=1}]) ((kN _ (mLen (sh:=Q6) x1) fun v0=>(kL2 v0 (hL:=(Q86 x0 x1 v0 0)) (hA:=fun v1 v3=>(kEH (enc:=QW) (bt:=QU) ((0:Int),v3) ⟨.refl _,.refl _⟩))
 (hB:=fun v1 v4=>(kEH (enc:=QW) (bt:=QU) (v4.snd,v4.fst) ⟨.refl _,.refl _⟩)))) h))
 (fun QV QF Q85 Q86 x0 x1 a5 a7 o h=>
 Lp1p (hs:=[(13,.split),(17,.e Qp),(26,.z [{slot:=23,own:=1}] (some (.n eI 26 (some .a)))),(31,.c eI),(33,.split),(39,.n eI 39 none),(42,.split),(51,.a),(62,.a),(68,.h [kk 0,{slot:=0,path:=[2],own:=1},{slot:=0,path:=[3],own:=1},{slot:=0,path:=[4],own:=1}] QW QU),(70,.split),(78,.s),(90,.n eI 90 none),(92,.s),(79,.z [{slot:=78,own:=1,cut:=true}] (some (.n eS 78 none))),(93,.z [{slot:=92,own:=1,cut:=true}] (some (.n eI 92 none))),(6000012,.l [] [] [] [0,1,6,8,11,12] [kk 0,{slot:=0,path:=[2],own:=1},{slot:=0,path:=[3],own:=1},{slot:=0,path:=[4],own:=1},kk 6] (YT (x1,a5)))]) (kb:=[kk 0,{slot:=0,path:=[2],own:=1},{slot:=0,path:=[3],own:=1},{slot:=0,path:=[4],own:=1}]) (kbx:=[kk 0,{slot:=0,path:=[2],own:=1},{slot:=0,path:=[3],own:=1},{slot:=0,path:=[4],own:=1}]) (by kernel_rfl) (by kernel_rfl) ((kIfD (p:=a7<a5) (kIxR (l:=x1) (k:=a7) Z7 fun v0=>(kA (q:=(x0.fq.length+(1:Nat))*(8:Nat)≤(140737488355328:Nat)∧x0.fq.length+(1:Nat)≤(9223372036854775807:Nat)) (sh:=eI) (l:=x0.fq) (kO (sh:=eI) (x0.fq++[a7]) (mA (sh:=eI) x0.fq a7) (nA x0.fq a7) fun v1=>(kT (nM (sh:=eS) x0.fp) (kT (nM (sh:=eS) x0.fh) (kT (nM (sh:=eI) v1) (kC (sh:=eI) (NW (Q3.mk x0.fi x0.fp x0.fh v1) v0) fun v2=>(kIf (c:=v2 !=0) (kX (alts:=Zk x1 a5) (.inr ((Q3.mk x0.fi x0.fp x0.fh v1),v2)) (.next (.here _ rfl (.refl _) (.refl _))))
 (kN (↑x0.fh.length:Int) rfl fun v3=>(kJ1 (id:=6000012) (v0,v3,a7) (fun v4 ab v5=>(kIf (c:=v0.fOp==1) (kA (q:=(x0.fp.length+(1:Nat))*(16:Nat)≤(140737488355328:Nat)∧x0.fp.length+(1:Nat)≤(9223372036854775807:Nat)) (sh:=eS) (l:=x0.fp) (kA (q:=(x0.fh.length+(1:Nat))*(16:Nat)≤(140737488355328:Nat)∧x0.fh.length+(1:Nat)≤(9223372036854775807:Nat)) (sh:=eS) (l:=x0.fh) (kXj (alts:=YT (x1,a5)) ab (Q3.mk x0.fi (x0.fp++[v0.fa]) (x0.fh++[v0.fa]) v1) (.here _ rfl (.cons lr (.cons lr (.cons lr (.cons lr (.cons lr (.cons lr .nil)))))) (.cons (LeB.cells (0:Nat) (.cons lr (.cons lr (.cons (LeV.owl (by simp:x0.fp.length+(1:Nat)=List.length (x0.fp++[v0.fa]))) (.cons (LeV.owl (by simp:x0.fh.length+(1:Nat)=List.length (x0.fh++[v0.fa]))) (.cons lr .nil)))))) (.cons (LeB.ownEq (mA (sh:=eS) x0.fp v0.fa)) (.cons (LeB.ownEq (mA (sh:=eS) x0.fh v0.fa)) (.cons (LeB.refl (Box.own (0:Nat) (1:Nat) (List.map eI v1))) (.cons (LeB.refl (Box.cells (0:Nat) [ii v0.fOp,AV.str v0.fa,ii v0.fy,ii v0.fB,ii v0.fA,AV.sl (4:Nat) (List.map Q2 v0.fe),ii v0.fg.fOp,AV.str v0.fg.fa,ii v0.fg.fx.fN,ii v0.fg.fx.fD,ii v0.fg.fd.fk,ii v0.fg.fd.fm,ii v0.fg.fd.fv,ii v0.fg.fd.fo,ii v0.fg.fd.fw,ii v0.fg.fj.fK,AV.sl (2:Nat) (List.map Qk v0.fg.fj.fL),AV.sl (4:Nat) (List.map Q2 v0.fg.fe),AV.sl (13:Nat) (List.map Qi v0.fg.ff),AV.sl (20:Nat) (List.map Q6 v0.fb)])) .nil)))))))))
 (kXj (alts:=YT (x1,a5)) ab (Q3.mk x0.fi x0.fp x0.fh v1) (.here _ rfl (.refl _) (.refl _)))))
 (fun v4 v6=>(kH (sh:=QW) (bt:=QU) (Q85 v6 v4.fst.fb) fun v7=>(kIf (c:=v7.fst !=0) (kX (alts:=Zk x1 a5) (.inr (v7.snd,v7.fst)) (.next (.here _ rfl (.refl _) (.refl _))))
 (kG (p:=(0:Int)=(0:Int)∧0≤v4.snd.fst∧v4.snd.fst≤(↑v7.snd.fh.length:Int)) (kOc (sh:=eS) (List.take v4.snd.fst.toNat v7.snd.fh) (mT (sh:=eS) v7.snd.fh v4.snd.fst.toNat) fun v8=>(kG (p:=(0:Int)=(0:Int)∧0≤wr ((↑v7.snd.fq.length:Int) - (1:Int))∧wr ((↑v7.snd.fq.length:Int) - (1:Int))≤(↑v7.snd.fq.length:Int)) (kN (↑v7.snd.fq.length:Int) rfl fun v9=>(kOc (sh:=eI) (List.take ((wr ((↑v7.snd.fq.length:Int) - (1:Int))).toNat) v7.snd.fq) (mT (sh:=eI) v7.snd.fq ((wr ((↑v7.snd.fq.length:Int) - (1:Int))).toNat)) fun ac=>(kM0 (alts:=Zk x1 a5) (Q86 (Q3.mk v7.snd.fi v7.snd.fp v8 ac) x1 a5 (wr (v4.snd.snd+1))))))))))))))))))))))
 (kX (alts:=Zk x1 a5) (.inl x0) (.here _ rfl (.refl _) (.refl _)))) h))
theorem NM(x0 x1 r)(h:QV x0 x1=some r):PH 76 [.ptr 0 0 0,Qn x1] [.cells 0 [.sl 8 (List.map Q4 x0.fi.fc),.sl 20 (List.map Q6 x0.fi.fb),.ow 1 0 1 (List.length x0.fp),.ow 2 0 1 (List.length x0.fh),.ow 3 0 1 (List.length x0.fq)],.own 0 1 (List.map eS x0.fp),.own 0 1 (List.map eS x0.fh),.own 0 1 (List.map eI x0.fq)] (QW r) (QU r):=(Nq).1 x0 x1 r h
def Kr(s:Q9)(u:Unit)(o:Bool):List Alt:=jb o (fun b=>[.ptr 0 0 0,.bool b]) [.cells 0 (Qj s).cells]
def Gc(x0:Q9):Option (List Int×Int):=
 YQ x0.fb 40>>=fun v0=>if v0 then
 some ()>>=fun v1=>
 (Xq x0.fb 2000>>=fun v3=>
 if 2000<v3 then
 some true
 else
 some (List.length x0.fc:Int)>>=fun v4=>
 if 128<v4 then
 some true
 else
 some false)>>=fun v2=>if v2 then
 some ([],(2:Int))
 else
 VT x0.fc>>=fun v7=>
 if v7 !=0 then
 some ([],v7)
 else
 QV (Q3.mk x0 [] [] []) x0.fb>>=fun v8=>
 if v8.fst !=0 then
 some (v8.snd.fq,v8.fst)
 else
 some ([],(0:Int))
 else
 some ([],(13:Int))
theorem Ea(x0 r)(h:Gc x0=some r):PU 29 [Qj x0] (Ji r):=
 Pu2 (hs:=[(9,.cb),(13,.c eI),(14,.split),(18,.n eI 18 none),(19,.split),(23,.c eI),(25,.split),(33,.h [kk 0,{slot:=0,path:=[2],own:=1},{slot:=0,path:=[3],own:=1},{slot:=0,path:=[4],own:=1}] QW QU),(35,.split),(5000003,.l [] [] [] [1,20] [kk 1] (Kr x0))]) ((kCb (RQ x0.fb 40) (kJb (id:=5000003) () (fun v1 a3 v2=>(kC (sh:=eI) (Hj x0.fb 2000) fun v3=>(kIfD (p:=2000<v3) (kXj (alts:=Kr x0) a3 true (.here () rfl (.refl _) (.refl _)))
 (kN _ (mLen (sh:=Q4) x0.fc) fun v4=>(kIfD (p:=128<v4) (kXj (alts:=Kr x0) a3 true (.here () rfl (.refl _) (.refl _)))
 (kXj (alts:=Kr x0) a3 false (.next (.here () rfl (.refl _) (.refl _)))))))))
 (fun v1=>(kE (enc:=Ji) ([],(2:Int)) (LeT.tup (.cons (LeT.nil 1) (.cons (LeT.refl (ii (2:Int))) .nil)))))
 (fun v1=>(kC (sh:=eI) (LX x0.fc) fun v7=>(kIf (c:=v7 !=0) (kE (enc:=Ji) ([],v7) (LeT.tup (.cons (LeT.nil 1) (.cons (LeT.refl (ii v7)) .nil))))
 (kH (sh:=QW) (bt:=QU) (NM (Q3.mk x0 [] [] []) x0.fb) fun v8=>(kIf (c:=v8.fst !=0) (kT (nM (sh:=eI) v8.snd.fq) (kEr (enc:=Ji) (v8.snd.fq,v8.fst)))
 (kE (enc:=Ji) ([],(0:Int)) (LeT.tup (.cons (LeT.nil 1) (.cons (LeT.refl (ii (0:Int))) .nil))))))))))
 (kE (enc:=Ji) ([],(13:Int)) (LeT.tup (.cons (LeT.nil 1) (.cons (LeT.refl (ii (13:Int))) .nil))))) h)
end Go.Proofs.YtkgphhemcglgnaaGreatDoor
end
