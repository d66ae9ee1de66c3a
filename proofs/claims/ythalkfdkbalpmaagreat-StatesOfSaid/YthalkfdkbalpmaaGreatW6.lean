/- A part of a proof that a given statement (the one of this claim: the name of its theorem ends in _holds) is true of the program, with no condition ahead of it. Printed by wip/dev/pack2.py out of the texts in wip. -/
import Derived.Test.YthalkfdkbalpmaaGreatW5
set_option linter.unusedVariables false
set_option linter.unusedSimpArgs false
namespace Go.Proofs.YthalkfdkbalpmaaGreat.Rf.Rk
open Go Go.Proofs.YthalkfdkbalpmaaGreat.Rf
noncomputable section
theorem wrap_u64{n:Int}(h:U64 n):IntKind.wrap .u64 n=n:=by
 unfold U64 at h
 simp[IntKind.wrap,IntKind.bits,IntKind.signed]
 omega
theorem mz{a b:Int}(ha:U64 a)(hb:U64 b):eF .or .u64 a b=orI a b:=by
 have h:=mH ha hb
 unfold eF orI
 simp only
 have e:(BitVec.ofInt (IntKind.bits .u64) a|||BitVec.ofInt (IntKind.bits .u64) b).toNat=a.toNat|||b.toNat:=by
  rw[qR]
  have k:∀ x:Int,U64 x->(BitVec.ofInt (IntKind.bits .u64) x).toNat=x.toNat:=λx hx=>by
   unfold U64 at hx
   rw[qH]
   show(x % ((2 ^ 64:Nat):Int)).toNat=x.toNat
   rw[Int.emod_eq_of_lt hx.1 (by
    have:((2 ^ 64:Nat):Int)=18446744073709551616:=by decide
    omega)]
  rw[k a ha,k b hb]
 rw[e]
 exact wrap_u64 h
theorem JH(k:Int)(h1:-9223372036854775808<=k)(h2:k<=9223372036854775807):p80 N0 (k,())=some ((vG k,()),()):=by
 unfold p80
 simp only[aL,cm,decide_eq_true_eq]
 have hb:=uO k
 unfold vG at hb |-
 by_cases a:k<0
 ·rw[if_pos a,if_pos trivial,if_neg (by omega)]
 rw[if_neg a]
 by_cases b:63<k
 ·rw[if_pos (by simpa using b),if_neg (by omega)]
 rw[if_neg (by simpa using b)]
 have hw:IntKind.wrap .u64 k=k:=wrap_u64 ⟨by omega,by omega⟩
 have hm:Nat.min k.toNat (IntKind.bits .u64)=k.toNat:=dm (by show k.toNat<=64;omega)
 rw[hw,if_neg a,hm]
 rw[if_pos (by omega)]at hb |-
 rw[show(1:Int)*2 ^ k.toNat=((2 ^ k.toNat:Nat):Int) by simp,wrap_u64 hb]
def kh(f:Nat->Bool):Nat->Nat
 |0=>0
 |n+1=>kh f n+if f n=true then 2 ^ n else 0
theorem s9(f:Nat->Bool):∀ n,kh f n<2 ^ n
 |0=>by show 0<1;omega
 |n+1=>by
  have:=s9 f n
  simp only[kh,iA]
  split <;> omega
theorem jf(f:Nat->Bool):∀ n i,(kh f n).testBit i=(decide (i<n)&&f i)
 |0,i=>by simp[kh]
 |n+1,i=>by
  have ih:=jf f n
  have hlt:=s9 f n
  simp only[kh]
  cases hf:f n
  ·simp only[av,if_false,fP,ih]
   by_cases e:i=n
   ·subst e;simp[hf]
   ·by_cases h:i<n
    ·simp[h,fq h]
    ·have:¬i<n+1:=by omega
     simp[h,this]
  ·simp only[if_true]
   have h2:=vK hlt 1
   rw[gM]at h2
   rw[kW,h2,kU,nT,ih]
   by_cases e:i=n
   ·subst e;simp[hf]
   ·have e':¬n=i:=λh=>e h.symm
    by_cases h:i<n
    ·simp[h,fq h,e']
    ·have:¬i<n+1:=by omega
     simp[h,this,e']
theorem yg(f:Nat->Bool):p86 N0 (bsS 64 f,())=some ((((kh f 64:Nat):Int),()),()):=by
 have hl:(bsS 64 f).length=64:=by simp[bsS]
 unfold p86
 simp only[aL,cm,decide_eq_true_eq]
 have e64:(2:Nat) ^ 64=18446744073709551616:=by decide
 refine bT (λj=>((),(((kh f j:Nat):Int),((IntKind.wrap .u64 ((2 ^ j:Nat):Int)),((j:Int),()))))) (λj=>some ((((kh f 64:Nat):Int),()),())) 64 (λj hj k hk=>?_) N0 0 (aH _) (by unfold N0;omega)
 simp only[hl]
 rcases ap j 64 with h|h
 ·have c1:(j:Int)<((64:Nat):Int):=by omega
  have c2:(j:Int)<64:=by omega
  have hg:(bsS 64 f)[j]?=some (f j):=by unfold bsS;rw[bX,dR h];rfl
  have hp:(2:Nat) ^ j<2 ^ 64:=qB (by omega) h
  have hU:U64 ((2 ^ j:Nat):Int):=by
   rw[e64]at hp
   generalize (2:Nat) ^ j=z at hp |-
   exact⟨by omega,by omega⟩
  have hv:=s9 f (j+1)
  have hv2:(2:Nat) ^ (j+1)<=2 ^ 64:=iu (by omega) h
  have hk:=hk h
  have hdb:IntKind.wrap .u64 (((2 ^ j:Nat):Int)*2)=IntKind.wrap .u64 ((2 ^ (j+1):Nat):Int):=by rw[iA];simp
  have hj1:IntKind.wrap .i64 ((j:Int)+1)=((j+1:Nat):Int):=by rw[bC (by omega) (by omega)];simp
  simp only[c1,if_true,c2,decide_true,aX,aa,hg,wrap_u64 hU,hdb,hj1]
  rw[<-hk]
  cases hf:f j
  ·simp[kh,hf]
  ·have:IntKind.wrap .u64 (((kh f j:Nat):Int)+((2 ^ j:Nat):Int))=((kh f (j+1):Nat):Int):=by
    simp only[kh,hf,if_true]at hv |-
    rw[e64]at hv2
    generalize (2:Nat) ^ j=z at hv |-
    generalize (2:Nat) ^ (j+1)=z2 at hv hv2
    rw[wrap_u64 ⟨by omega,by omega⟩];simp
   simp only[if_true,this]
 ·have e:j=64:=by omega
  subst e
  simp
theorem pk(f:Nat->Bool):U64 ((kh f 64:Nat):Int):=by
 have:=s9 f 64
 have e64:(2:Nat) ^ 64=18446744073709551616:=by decide
 exact⟨by omega,by omega⟩
theorem qj(n:Nat):List.replicate n false=bsS n λ_=>false:=by
 unfold bsS;rw[nZ];simp
theorem oI(n:Nat)(f:Nat->Bool):(bsS n f).length=n:=by simp[bsS]
theorem jt{n:Nat}(f:Nat->Bool){i:Nat}(h:i<n):(bsS n f)[i]?=some (f i):=by
 unfold bsS;rw[bX,dR h];rfl
def cZ{α:Type}(f:Nat->α)(i:Nat)(v:α):Nat->α:=λj=>if j=i then v else f j
theorem map_set{α:Type}(n:Nat)(f:Nat->α)(i:Nat)(v:α):((List.range n).map f).set i v=(List.range n).map (cZ f i v):=by
 apply eA
 intro j
 rw[jB]
 by_cases hj:j<n
 ·rw[bX,dR hj,bX,dR hj]
  by_cases e:i=j
  ·subst e
   rw[if_pos rfl,if_pos (by simpa using hj)]
   simp[cZ]
  ·have e':¬j=i:=λh=>e h.symm
   rw[if_neg e]
   simp[cZ,e']
 ·have e1:((List.range n).map f)[j]?=none:=bx (by simp;omega)
  have e2:((List.range n).map (cZ f i v))[j]?=none:=bx (by simp;omega)
  rw[e1,e2]
  simp
  omega
theorem oJ{n:Nat}(f:Nat->Bool)(i:Nat)(v:Bool):(bsS n f).set i v=bsS n (cZ f i v):=map_set n f i v
theorem JI(k:Int):p56 N0 (k,())=some ((vG k,()),()):=by
 unfold p56
 have key:∀ f:Nat->Bool,(∀ i,f i=true↔k=(i:Int)/\i<=63)->((kh f 64:Nat):Int)=vG k:=λf hf=>by
  refine AL (pk f) (uO k) λi hi=>?_
  rw[aa,jf,cd,uP,ag,hf]
  simp[hi]
 simp only[aL,cm,decide_eq_true_eq,show Int.toNat 64=64 from rfl,qj]
 rw[if_pos (by decide),if_pos (by decide)]
 by_cases h1:0<=k
 ·by_cases h2:k<64
  ·have hk:k.toNat<64:=by omega
   simp only[h1,h2,if_true,decide_true,jt _ hk,oJ,yg,aC]
   rw[key _ (λi=>by simp[cZ];omega)]
  ·simp only[h1,h2,if_true,decide_false,av,if_false,yg,aC]
   rw[key _ (λi=>by simp;omega)]
 ·simp only[h1,if_false,av,yg,aC]
  rw[key _ (λi=>by simp;omega)]
def rS(A:Nat):Nat->Nat
 |0=>A
 |j+1=>rS A j / 2
theorem yh(A:Nat):∀ j,rS A j=A / 2 ^ j
 |0=>by simp[rS]
 |j+1=>by rw[rS,yh A j,iA,nR]
theorem Nf(A j:Nat):rS A j<=A:=by rw[yh];exact qS _ _
theorem D7{a:Int}(ha:U64 a){n:Nat}(hn:n<64):IE N0 (a,((n:Int),()))=some ((a.toNat.testBit n,()),()):=by
 obtain⟨A,rfl⟩:∃ A:Nat,a=(A:Int):=⟨a.toNat,by unfold U64 at ha;omega⟩
 unfold IE
 have h1:¬(n:Int)<0:=by omega
 have h2:¬(63:Int)<(n:Int):=by omega
 simp only[aL,cm,decide_eq_true_eq,h1,if_false,h2,decide_false,av,aa]
 have hU:∀ j,U64 ((rS A j:Nat):Int):=λj=>by
  have:=Nf A j
  unfold U64 at *
  omega
 refine bT (λj=>((),(((rS A j:Nat):Int),((j:Int),())))) (λj=>some ((A.testBit n,()),())) n (λj hj k hk=>?_) N0 0 (aH _) (by unfold N0;omega)
 simp only[show ¬(2:Int)=0 by omega,if_false]
 rcases ap j n with h|h
 ·have c:(j:Int)<(n:Int):=by omega
  have hd:Int.tdiv ((rS A j:Nat):Int) 2=((rS A (j+1):Nat):Int):=rfl
  have hj1:IntKind.wrap .i64 ((j:Int)+1)=((j+1:Nat):Int):=by rw[bC (by omega) (by omega)];simp
  simp only[c,if_true,hd,wrap_u64 (hU _),hj1]
  exact hk h
 ·have e:j=n:=by omega
  subst e
  simp only[od,if_false]
  congr 3
  rw[qs,<-yh]
  have:Int.tmod ((rS A j:Nat):Int) 2=((rS A j % 2:Nat):Int):=rfl
  rw[this]
  by_cases hz:rS A j % 2=1
  ·simp[hz]
  ·have:¬((rS A j % 2:Nat):Int)=1:=by omega
   simp only[hz,this,decide_false]
theorem yi{a b:Int}(ha:U64 a)(hb:U64 b):p85 N0 (a,(b,()))=some ((orI a b,()),()):=by
 unfold p85
 simp only[aL,cm,decide_eq_true_eq,show Int.toNat 64=64 from rfl,qj]
 rw[if_pos (by decide),if_pos (by decide)]
 refine bT (λj=>((bsS 64 (λi=>decide (i<j)&&(a.toNat.testBit i||b.toNat.testBit i)),()),((j:Int),()))) (λj=>some ((orI a b,()),())) 64 (λj hj k hk=>?_) N0 0 (aH _) (by unfold N0;omega)
 rcases ap j 64 with h|h
 ·have c:(j:Int)<64:=by omega
  have hj1:IntKind.wrap .i64 ((j:Int)+1)=((j+1:Nat):Int):=by rw[bC (by omega) (by omega)];simp
  have hu:∀ v,v=(a.toNat.testBit j||b.toNat.testBit j)->cZ (λi=>decide (i<j)&&(a.toNat.testBit i||b.toNat.testBit i)) j v=λi=>decide (i<j+1)&&(a.toNat.testBit i||b.toNat.testBit i):=λv hv=>by
   funext i
   unfold cZ
   by_cases e:i=j
   ·subst e;simp[hv]
   ·rw[if_neg e]
    by_cases h:i<j
    ·simp[h,fq h]
    ·have:¬i<j+1:=by omega
     simp[h,this]
  have hk:=hk h
  simp only[c,if_true,D7 ha h,D7 hb h,aC,aX,aa,jt _ h,oJ,hj1]
  rw[<-hk]
  cases h1:a.toNat.testBit j
  ·simp only[av,if_false]
   rw[hu _ (by rw[h1,cP])]
  ·simp only[if_true]
   rw[hu _ (by rw[h1,dV])]
 ·have e:j=64:=by omega
  subst e
  simp only[show ¬((64:Nat):Int)<64 by omega,if_false,yg,aC]
  congr 3
  refine AL (pk _) (mH ha hb) λi hi=>?_
  rw[aa,jf,dO]
  simp[hi]
end
noncomputable section
theorem Gt(a b c:Int):orI (orI a b) c=orI a (orI b c):=by
 unfold orI
 rw[aa,aa,Nat.or_assoc]
theorem AN:U64 0:=⟨by omega,by omega⟩
theorem kw{n:Nat}(F:Nat->Int){i:Nat}(h:i<n):(inN n F)[i]?=some (F i):=by
 unfold inN;rw[bX,dR h];rfl
theorem qk(n:Nat)(F:Nat->Int):(inN n F).length=n:=by simp[inN]
theorem ta{n:Nat}(F:Nat->Int)(i:Nat)(v:Int):(inN n F).set i v=inN n (cZ F i v):=map_set n F i v
theorem yj(n:Nat):List.replicate n (0:Int)=inN n λ_=>0:=by
 unfold inN;rw[nZ];simp
def Gu(b:List SyS):Prop:=∀ y∈b,-9223372036854775808<=y.2/\y.2<=9223372036854775807
variable {n:Nat} {f:Nat->Bool} {F:Nat->Int}
theorem JJ(hF:∀ i,U64 (F i)){body:List SyS}(hb:Gu body)(hl:body.length<=maxLen):p73 N0 ((bsS n f,inN n F),(body,()))=some (((eY n f F body).1,((eY n f F body).2,())),()):=by
 unfold p73
 simp only[aL,cm,decide_eq_true_eq,oI,qk]
 refine(aZ (λm x r=>∃ (j:Nat) (out:Int),x=((),(out,((j:Int),())))/\j<=body.length/\m=body.length-j/\U64 out/\r=some (((orI out (eY n f F (body.drop j)).1,((eY n f F (body.drop j)).2,())),()):(Int×(Bool×Unit))×Unit)) ?_ N0 body.length _ _ (by have:=jY hl;omega) ⟨0,0,rfl,aH _,rfl,AN,rfl⟩).trans (by rw[dn,Jz (iN hF body).1])
 rintro m x r ⟨j,out,rfl,hjl,rfl,sL,rfl⟩ k hk
 rcases ap j body.length with h|h
 ·have c:(j:Int)<(body.length:Int):=by omega
  have hy:=hb _ (bp h)
  simp only[c,if_true,aX,aa,ah h,bo h hl]
  rw[db h]
  generalize body[j]=y at hy |-
  unfold eY
  cases h1:y.1
  ·simp only[aJ,if_true,JH y.2 hy.1 hy.2,aC,mz sL (uO _)]
  ·simp only[aB,av,if_false,reduceCtorEq]
   by_cases h2:y.2<0
   ·have:inR n y.2=false:=by unfold inR;simp;omega
    simp only[h2,if_true,this,av,if_false,uN sL.1]
   ·by_cases h3:(n:Int)<=y.2
    ·have:inR n y.2=false:=by unfold inR;simp;omega
     simp only[h2,if_false,h3,if_true,this,av,uN sL.1]
    ·have hr:inR n y.2=true:=by rw[iX];omega
     have hi:y.2.toNat<n:=by omega
     have h0:0<=y.2:=by omega
     simp only[h2,if_false,h3,decide_false,av,hr,if_true,h0,kw F hi,jt f hi]
     cases hf:f y.2.toNat
     ·simp only[aJ,if_true,mz sL (hF _),av,if_false]
     ·simp only[aB,av,if_false,if_true,mz sL (hF _)]
      rw[<-Gt]
      exact hk _ _ _ (by omega) ⟨j+1,_,rfl,by omega,rfl,mH sL (hF _),rfl⟩
 ·have c:¬(j:Int)<(body.length:Int):=by omega
  simp only[c,if_false]
  rw[fk h]
  show _=some (((orI out 0,(true,())),()))
  rw[uN sL.1]
theorem P0(hF:∀ i,U64 (F i)){body:List SyS}(hb:Gu body)(hl:body.length<=maxLen){look:Int}(hk:U64 look):p77 N0 ((bsS n f,inN n F),(body,(look,())))=some ((ye n f F body look,()),()):=by
 unfold p77 ye
 simp only[JJ hF hb hl,aC,cm]
 split
 ·rw[mz (iN hF body) hk]
 ·rfl
theorem Cq(hF:∀ i,U64 (F i)):∀ (d:Nat) (body:List SyS),Gu body->body.length<d->IF N0 d (bsS n f,(inN n F,(body,())))=some (((eY n f F body).1,((eY n f F body).2,())),())
 |0,body,_,h=>by omega
 |d+1,body,hb,hd=>by
  rw[IF]
  unfold Ml
  simp only[aL,cm,decide_eq_true_eq,oI,qk]
  cases body with
  |nil=>simp[eY]
  |cons y r=>
   have c:¬(((y::r).length:Nat):Int)=0:=by simp;omega
   have ih:=Cq hF d r (λz hz=>hb z (bK _ hz)) (by rw[aO]at hd;omega)
   simp only[c,if_false,jF,if_true,Int.toNat_zero,gD]
   unfold eY
   cases h1:y.1
   ·simp only[aJ,if_true,JI,aC]
   ·simp only[aB,av,if_false,reduceCtorEq]
    by_cases h2:y.2<0
    ·have:inR n y.2=false:=by unfold inR;simp;omega
     simp only[h2,if_true,this,av,if_false]
    ·by_cases h3:(n:Int)<=y.2
     ·have:inR n y.2=false:=by unfold inR;simp;omega
      simp only[h2,if_false,h3,if_true,this,av]
     ·have hr:inR n y.2=true:=by rw[iX];omega
      have hi:y.2.toNat<n:=by omega
      have h0:0<=y.2:=by omega
      simp only[h2,if_false,h3,decide_false,av,hr,if_true,h0,kw F hi,jt f hi]
      cases hf:f y.2.toNat
      ·simp only[aJ,if_true,av,if_false]
      ·have rJ:cz (y::r) 1 (((y::r).length:Nat):Int)=r:=by simp[cz]
       have c2:(0:Int)<=1/\(1:Int)<=(((y::r).length:Nat):Int)/\True:=⟨by omega,by simp;omega,trivial⟩
       simp only[aB,av,if_false,if_true]
       rw[if_pos c2,rJ,ih]
       simp only[aC,yi (hF _) (iN hF r)]
theorem P1(hF:∀ i,U64 (F i)){body:List SyS}(hb:Gu body)(hl:body.length<=maxLen){look:Int}(hk:U64 look):p55 N0 (bsS n f,(inN n F,(body,(look,()))))=some ((ye n f F body look,()),()):=by
 unfold p55 ye p84
 simp only[Cq hF N0 body hb (by have:=jY hl;omega),aC,cm,yi (iN hF body) hk]
 split <;> rfl
end
noncomputable section
abbrev GrS:=List (List Int×(Int×List Int))×(List (List Int)×(List PrS×(List (Int×List Int)×Int)))
structure Gs(g:GrS):Prop where
 ns:g.2.1.length<=20
 ps:g.2.2.1.length<=12
 pb:∀ p∈g.2.2.1,p.2.2.1.length<=20
 py:∀ p∈g.2.2.1,Gu p.2.2.1
 st:-9223372036854775808<=g.2.2.2.2/\g.2.2.2.2<=9223372036854775807
theorem dB{α:Type}:∀ (l:List α) (j:Nat) (h:j<l.length),l.take (j+1)=l.take j++[l[j]]
 |[],j,h=>by simp at h
 |a::l,0,h=>by simp
 |a::l,j+1,h=>by
  have:=dB l j (by simpa using h)
  simp only[qF,this,dS,List.getElem_cons_succ]
theorem cH{j n:Nat}(h:j<n)(hn:n<=1000000):IntKind.wrap .i64 ((j:Int)+1)=((j+1:Nat):Int):=by
 rw[bC (by omega) (by omega)];simp
def stE(n:Nat)(f:Nat->Bool)(p:PrS):Nat->Bool:=if(emR n f p.2.2.1&&inR n p.1)=true then cZ f p.1.toNat true else f
def rdE(n:Nat)(ps:List PrS)(f:Nat->Bool):Nat->Bool:=ps.foldl (stE n) f
def itE(n:Nat)(ps:List PrS):Nat->Nat->Bool
 |0=>λ_=>false
 |k+1=>rdE n ps (itE n ps k)
theorem JK{n:Nat}{f:Nat->Bool}(b:List SyS)(y:SyS):emR n f (b++[y])=(emR n f b&&(y.1&&inR n y.2&&f y.2.toNat)):=by
 unfold emR;rw[List.all_append];simp
set_option maxHeartbeats 1000000 in
theorem Ng{g:GrS}(hg:Gs g):p51 N0 (g,())=some ((bsS g.2.1.length (itE g.2.1.length g.2.2.1 (g.2.1.length+1)),()),()):=by
 have hns:=hg.ns
 have hps:=hg.ps
 obtain⟨n,hn⟩:∃ n,n=g.2.1.length:=⟨_,rfl⟩
 unfold p51
 simp only[aL,cm,decide_eq_true_eq,<-hn,qj,aa]
 rw[<-hn]at hns
 rw[if_pos ⟨by omega,by omega⟩,if_pos (by omega)]
 refine bT (λj=>((bsS n (itE n g.2.2.1 j),()),((j:Int),()))) (λ_=>some ((bsS n (itE n g.2.2.1 (n+1)),()),())) (n+1) (λk hk K hK=>?_) N0 0 (aH _) (by unfold N0;omega)
 simp only[oI]
 rcases ap k (n+1)with h|h
 ·have c:(k:Int)<=(n:Int):=by omega
  have hK:=hK h
  have hk1:IntKind.wrap .i64 ((k:Int)+1)=((k+1:Nat):Int):=cH h (by omega)
  simp only[c,if_true,hk1]
  rw[<-hK,show itE n g.2.2.1 (k+1)=rdE n g.2.2.1 (itE n g.2.2.1 k)from rfl]
  generalize itE n g.2.2.1 k=f0 at *
  refine bT (λi=>((bsS n (rdE n (g.2.2.1.take i) f0),()),((i:Int),()))) (λ_=>K ((bsS n (rdE n g.2.2.1 f0),()),(((k+1:Nat):Int),()))) g.2.2.1.length (λi hi L hL=>?_) N0 0 (aH _) (by unfold N0;omega)
  rcases ap i g.2.2.1.length with hil|hil
  ·have ci:(i:Int)<(g.2.2.1.length:Int):=by omega
   have hL:=hL hil
   have hi1:IntKind.wrap .i64 ((i:Int)+1)=((i+1:Nat):Int):=cH hil (by omega)
   have sE:rdE n (g.2.2.1.take (i+1)) f0=stE n (rdE n (g.2.2.1.take i) f0) g.2.2.1[i]:=by
    unfold rdE
    rw[dB _ _ hil,kO];rfl
   have hp:=bp hil
   have hbl:=hg.pb _ hp
   simp only[ci,if_true,aX,aa,ah hil,hi1]
   rw[sE]at hL
   generalize rdE n (g.2.2.1.take i) f0=f at *
   generalize g.2.2.1[i]=p at *
   refine bT (λj=>((bsS n f,()),(emR n f (p.2.2.1.take j),((j:Int),())))) (λ_=>K ((bsS n (rdE n g.2.2.1 f0),()),(((k+1:Nat):Int),()))) p.2.2.1.length (λj hj M hM=>?_) N0 0 (aH _) (by unfold N0;omega)
   rcases ap j p.2.2.1.length with hjl|hjl
   ·have cj:(j:Int)<(p.2.2.1.length:Int):=by omega
    have hM:=hM hjl
    rw[dB _ _ hjl,JK]at hM
    have hj1:IntKind.wrap .i64 ((j:Int)+1)=((j+1:Nat):Int):=cH hjl (by omega)
    simp only[cj,if_true,aX,aa,ah hjl,hj1,oI]
    generalize p.2.2.1[j]=y at *
    rw[<-hM]
    cases h1:emR n f (p.2.2.1.take j)
    ·simp
    ·cases h2:y.1
     ·simp
     ·by_cases h3:0<=y.2
      ·by_cases h4:y.2<(n:Int)
       ·have hr:inR n y.2=true:=iX.2 ⟨h3,h4⟩
        have hyl:y.2.toNat<n:=by omega
        simp only[if_true,h3,h4,jt f hyl,hr,bF]
       ·have hr:inR n y.2=false:=by unfold inR;simp[h4]
        simp only[if_true,h3,h4,if_false,hr,bF,dI]
      ·have hr:inR n y.2=false:=by unfold inR;simp[h3]
       simp only[if_true,h3,if_false,hr,bF,dI]
   ·have cj:¬(j:Int)<(p.2.2.1.length:Int):=by omega
    rw[bZ hjl]
    simp only[cj,if_false,oI]
    rw[<-hL]
    unfold stE
    cases h1:emR n f p.2.2.1
    ·simp
    ·by_cases h3:0<=p.1
     ·by_cases h4:p.1<(n:Int)
      ·have hr:inR n p.1=true:=iX.2 ⟨h3,h4⟩
       have hyl:p.1.toNat<n:=by omega
       simp only[if_true,h3,h4,decide_true,jt f hyl,hr,bF,oJ]
      ·have hr:inR n p.1=false:=by unfold inR;simp[h4]
       simp[h3,h4,hr]
     ·have hr:inR n p.1=false:=by unfold inR;simp[h3]
      simp[h3,hr]
  ·have ci:¬(i:Int)<(g.2.2.1.length:Int):=by omega
   simp only[ci,if_false]
   rw[bZ hil]
 ·have e:k=n+1:=by omega
  subst e
  have c:¬((n+1:Nat):Int)<=(n:Int):=by omega
  simp only[c,if_false]
theorem AO{n:Nat}{f:Nat->Bool}{p:PrS}{i:Nat}(h:f i=true):stE n f p i=true:=by
 unfold stE
 split
 ·unfold cZ;split
  ·rfl
  ·exact h
 ·exact h
theorem uQ{n:Nat}:∀ (ps:List PrS) {f:Nat->Bool} {i:Nat},f i=true->rdE n ps f i=true
 |[],f,i,h=>h
 |p::ps,f,i,h=>uQ (f:=stE n f p) ps (AO h)
def ClE(n:Nat)(ps:List PrS)(f:Nat->Bool):Prop:=∀ p∈ps,inR n p.1=true->emR n f p.2.2.1=true->f p.1.toNat=true
theorem JL{n:Nat}:∀ (ps:List PrS) {f:Nat->Bool},(∀ i,i<n->rdE n ps f i=true->f i=true)->ClE n ps f
 |[],f,h=>λp hp=>by cases hp
 |p::ps,f,h=>by
  have e:stE n f p=f:=by
   funext i
   rw[cd]
   constructor
   ·intro hi
    unfold stE at hi
    split at hi
    ·rename_i hc
     simp only[ag]at hc
     unfold cZ at hi
     split at hi
     ·rename_i e
      subst e
      have hr:=iX.1 hc.2
      refine h _ (by omega) (uQ (f:=stE n f p) ps ?_)
      unfold stE cZ
      rw[if_pos (by rw[hc.1,hc.2];rfl),if_pos rfl]
     ·exact hi
    ·exact hi
   ·exact AO
  have ih:=JL ps (f:=f) (λi hi hr=>h i hi (by show rdE n ps (stE n f p) i=true;rw[e];exact hr))
  intro q hq h1 h2
  rcases aA.1 hq with rfl|hq
  ·have:stE n f q q.1.toNat=true:=by
    unfold stE cZ
    rw[if_pos (by rw[h1,h2];rfl),if_pos rfl]
   rwa [e]at this
  ·exact ih q hq h1 h2
theorem uR{n:Nat}{f:Nat->Bool}:∀ (ps:List PrS),ClE n ps f->rdE n ps f=f
 |[],_=>rfl
 |p::ps,h=>by
  have e:stE n f p=f:=by
   unfold stE
   split
   ·rename_i hc
    simp only[ag]at hc
    funext i
    unfold cZ
    split
    ·rename_i e
     rw[e,h p bE hc.2 hc.1]
    ·rfl
   ·rfl
  show rdE n ps (stE n f p)=f
  rw[e]
  exact uR ps (λq hq=>h q (bK _ hq))
theorem Nh{n:Nat}{ps:List PrS}:∀ k i,itE n ps k i=true->Emp ps n (i:Int):=by
 have hs:∀ (l:List PrS),(∀ p∈l,p∈ps)->∀ f:Nat->Bool,(∀ i,f i=true->Emp ps n (i:Int))->∀ i,rdE n l f i=true->Emp ps n (i:Int):=by
  intro l
  induction l with
  |nil=>intro _ f hf;exact hf
  |cons p l ih=>
   intro hl f hf
   refine ih (λq hq=>hl q (bK _ hq)) (stE n f p) λi hi=>?_
   unfold stE at hi
   split at hi
   ·rename_i hc
    simp only[ag]at hc
    unfold cZ at hi
    split at hi
    ·rename_i e
     rw[e,je hc.2]
     exact yf (hl p bE) hc.2 hf hc.1
    ·exact hf i hi
   ·exact hf i hi
 intro k
 induction k with
 |zero=>intro i h;cases h
 |succ k ih=>exact hs ps (λ_ h=>h) _ ih
theorem P2{n:Nat}{ps:List PrS}:ClE n ps (itE n ps (n+1)):=by
 have key:∀ k,ClE n ps (itE n ps k)\/ig (List.range n) (λi=>itE n ps k i=true)+k<=n:=by
  intro k
  induction k with
  |zero=>
   have:=jd (List.range n) (λi=>itE n ps 0 i=true)
   rw[kN]at this
   exact .inr (by omega)
  |succ k ih=>
   rcases ih with h|h
   ·left
    show ClE n ps (rdE n ps (itE n ps k))
    rw[uR ps h];exact h
   ·by_cases hc:∀ i,i<n->rdE n ps (itE n ps k) i=true->itE n ps k i=true
    ·left
     have hcl:=JL ps hc
     show ClE n ps (rdE n ps (itE n ps k))
     rw[uR ps hcl];exact hcl
    ·right
     have:∃ i,i<n/\rdE n ps (itE n ps k) i=true/\¬itE n ps k i=true:=by
      apply jw
      intro hn
      refine hc λi h1 h2=>?_
      apply jw
      intro h3
      exact hn ⟨i,h1,h2,h3⟩
     obtain⟨i,h1,h2,h3⟩:=this
     have:=oH (U:=List.range n) (P:=λi=>itE n ps k i=true) (Q:=λi=>itE n ps (k+1) i=true) (λj _ hj=>uQ ps hj) (cD.2 h1) h3 h2
     omega
 rcases key (n+1)with h|h
 ·exact h
 ·omega
theorem Ni{n:Nat}{ps:List PrS}(i:Nat):itE n ps (n+1) i=true↔Emp ps n (i:Int):=
 ⟨Nh _ i,λh=>JG P2 h⟩
end
noncomputable section
open Classical in
def tE(ps:List PrS)(n:Nat):Nat->Bool:=λi=>decide (Emp ps n (i:Int))
open Classical in
def tF(ps:List PrS)(n:Nat):Nat->Int:=λi=>((kh (λb=>decide (Fst ps n (i:Int) b)) 64:Nat):Int)
theorem rT{ps:List PrS}{n i:Nat}:tE ps n i=true↔Emp ps n (i:Int):=by unfold tE;simp
theorem JM{ps:List PrS}{n:Nat}(i:Nat):U64 (tF ps n i):=pk _
theorem P3{ps:List PrS}{n i b:Nat}:(tF ps n i).toNat.testBit b=true↔Fst ps n (i:Int) b:=by
 unfold tF
 rw[aa,jf,ag]
 simp only[decide_eq_true_eq]
 exact⟨λh=>h.2,λh=>⟨h.lt,h⟩⟩
theorem tT{ps:List PrS}{n:Nat}:IsT ps n (tE ps n) (tF ps n):=⟨λi _=>rT,JM,λi _ b=>P3⟩
theorem JN{g:GrS}(hg:Gs g):p51 N0 (g,())=some ((bsS g.2.1.length (tE g.2.2.1 g.2.1.length),()),()):=by
 rw[Ng hg]
 congr 3
 refine kM λi _=>?_
 rw[cd,Ni,rT]
def stF(n:Nat)(e:Nat->Bool)(s:(Nat->Int)×Bool)(p:PrS):(Nat->Int)×Bool:=
 if inR n p.1=true then(cZ s.1 p.1.toNat (orI (eY n e s.1 p.2.2.1).1 (s.1 p.1.toNat)),s.2||!decide (orI (eY n e s.1 p.2.2.1).1 (s.1 p.1.toNat)=s.1 p.1.toNat))else s
def rdF(n:Nat)(e:Nat->Bool)(ps:List PrS)(s:(Nat->Int)×Bool):(Nat->Int)×Bool:=ps.foldl (stF n e) s
def leF(F G:Nat->Int):Prop:=∀ i b,(F i).toNat.testBit b=true->(G i).toNat.testBit b=true
def j8(F:Nat->Int):Prop:=∀ i,U64 (F i)
theorem AP{F:Nat->Int}(h:j8 F){i:Nat}{v:Int}(hv:U64 v):j8 (cZ F i v):=λj=>by
 unfold cZ;split
 ·exact hv
 ·exact h j
theorem NS{n:Nat}{e:Nat->Bool}{s:(Nat->Int)×Bool}{p:PrS}(h:j8 s.1):j8 (stF n e s p).1:=by
 unfold stF;split
 ·exact AP h (mH (iN h _) (h _))
 ·exact h
theorem JO{n:Nat}{e:Nat->Bool}{s:(Nat->Int)×Bool}{p:PrS}:leF s.1 (stF n e s p).1:=by
 intro i b hb
 unfold stF;split
 ·show(cZ s.1 p.1.toNat _ i).toNat.testBit b=true
  unfold cZ;split
  ·rename_i e0
   rw[dO,<-e0,hb,fv]
  ·exact hb
 ·exact hb
theorem NT{n:Nat}{e:Nat->Bool}:∀ (ps:List PrS) {s:(Nat->Int)×Bool},j8 s.1->j8 (rdF n e ps s).1
 |[],s,h=>h
 |p::ps,s,h=>NT (s:=stF n e s p) ps (NS h)
theorem Cr{n:Nat}{e:Nat->Bool}:∀ (ps:List PrS) {s:(Nat->Int)×Bool},leF s.1 (rdF n e ps s).1
 |[],s=>λ_ _ h=>h
 |p::ps,s=>λi b h=>Cr (s:=stF n e s p) ps i b (JO i b h)
theorem JP{a c:Int}(ha:U64 a)(hc:U64 c)(h:orI a c≠c):∃ b,b<64/\c.toNat.testBit b=false/\(orI a c).toNat.testBit b=true:=by
 apply jw
 intro hn
 refine h (AL (mH ha hc) hc λb hb=>?_)
 rw[cd]
 constructor
 ·intro h1
  cases h2:c.toNat.testBit b
  ·exact(hn ⟨b,hb,h2,h1⟩).elim
  ·rfl
 ·intro h1
  rw[dO,h1,fv]
theorem D8{n:Nat}{e:Nat->Bool}:∀ (ps:List PrS) {s:(Nat->Int)×Bool},j8 s.1->(rdF n e ps s).2=true->s.2=true\/∃ i b,i<n/\b<64/\(s.1 i).toNat.testBit b=false/\((rdF n e ps s).1 i).toNat.testBit b=true
 |[],s,_,h=>.inl h
 |p::ps,s,hU,h=>by
  rcases D8 (s:=stF n e s p) ps (NS hU) h with h1|⟨i,b,h1,h2,h3,h4⟩
  ·by_cases hs:s.2=true
   ·exact .inl hs
   ·right
    unfold stF at h1
    split at h1
    ·rename_i hr
     simp only[aG,bu,decide_eq_false_iff_not]at h1
     rcases h1 with h1|h1
     ·exact absurd h1 hs
     ·obtain⟨b,hb,hb1,hb2⟩:=JP (iN hU _) (hU _) h1
      have hr':=iX.1 hr
      refine⟨p.1.toNat,b,by omega,hb,hb1,Cr (s:=stF n e s p) ps _ _ ?_⟩
      unfold stF
      rw[if_pos hr]
      show(cZ s.1 p.1.toNat _ p.1.toNat).toNat.testBit b=true
      unfold cZ
      rw[if_pos rfl]
      exact hb2
    ·exact absurd h1 hs
  ·refine .inr ⟨i,b,h1,h2,?_,h4⟩
   cases hb:(s.1 i).toNat.testBit b
   ·rfl
   ·rw[JO i b hb]at h3;cases h3
theorem AQ{n:Nat}{e:Nat->Bool}:∀ (ps:List PrS) {s:(Nat->Int)×Bool},(rdF n e ps s).2=false->(rdF n e ps s)=s/\s.2=false/\∀ p∈ps,inR n p.1=true->orI (eY n e s.1 p.2.2.1).1 (s.1 p.1.toNat)=s.1 p.1.toNat
 |[],s,h=>⟨rfl,h,λp hp=>by cases hp⟩
 |p::ps,s,h=>by
  obtain⟨h1,h2,h3⟩:=AQ (s:=stF n e s p) ps h
  have e1:stF n e s p=s/\(inR n p.1=true->orI (eY n e s.1 p.2.2.1).1 (s.1 p.1.toNat)=s.1 p.1.toNat):=by
   unfold stF at h2 |-
   by_cases hr:inR n p.1=true
   ·rw[if_pos hr]at h2
    simp only[eO,Bool.not_eq_false',decide_eq_true_eq]at h2
    refine⟨?_,λ_=>h2.2⟩
    rw[if_pos hr,h2.2]
    have:cZ s.1 p.1.toNat (s.1 p.1.toNat)=s.1:=by
     funext j;unfold cZ;split
     ·rename_i e;rw[e]
     ·rfl
    rw[this]
    simp
   ·rw[if_neg hr]
    exact⟨rfl,λh=>absurd h hr⟩
  have h1:rdF n e (p::ps) s=stF n e s p:=h1
  rw[e1.1]at h1 h2 h3
  refine⟨h1,h2,λq hq hr=>?_⟩
  rcases aA.1 hq with rfl|hq
  ·exact e1.2 hr
  ·exact h3 q hq hr
def JQ(ps:List PrS)(n:Nat)(F:Nat->Int):Prop:=∀ i b,(F i).toNat.testBit b=true->Fst ps n (i:Int) b
theorem D9{n:Nat}{ps:List PrS}:∀ (l:List PrS),(∀ p∈l,p∈ps)->∀ {s:(Nat->Int)×Bool},JQ ps n s.1->JQ ps n (rdF n (tE ps n) l s).1
 |[],_,s,h=>h
 |p::l,hl,s,h=>by
  refine D9 (s:=stF n (tE ps n) s p) l (λq hq=>hl q (bK _ hq)) λi b hb=>?_
  unfold stF at hb
  split at hb
  ·rename_i hr
   change(cZ s.1 p.1.toNat _ i).toNat.testBit b=true at hb
   unfold cZ at hb
   split at hb
   ·rename_i e
    rw[e]
    rw[dO,aG]at hb
    rcases hb with hb|hb
    ·rw[j7]at hb
     rw[je hr]
     exact AM (hl p bE) hr (λi hi=>rT.1 hi) h hb
    ·exact h _ _ hb
   ·exact h _ _ hb
  ·exact h _ _ hb
def Cs(n:Nat):List (Nat×Nat):=(List.range n).flatMap λi=>(List.range 64).map λb=>(i,b)
theorem uS(n:Nat):(Cs n).length=n*64:=by
 unfold Cs;simp[List.length_flatMap,nZ]
theorem JR{n i b:Nat}(h1:i<n)(h2:b<64):(i,b)∈Cs n:=dU.2 ⟨i,cD.2 h1,gL.2 ⟨b,cD.2 h2,rfl⟩⟩
def nG(n:Nat)(F:Nat->Int):Nat:=ig (Cs n) λu=>(F u.1).toNat.testBit u.2=true
theorem uT{n:Nat}{F G:Nat->Int}(h:leF F G){i b:Nat}(h1:i<n)(h2:b<64)(h3:(F i).toNat.testBit b=false)(h4:(G i).toNat.testBit b=true):nG n G<nG n F:=
 oH (λu _ hu=>h _ _ hu) (JR h1 h2) (by show ¬(F i).toNat.testBit b=true;rw[h3];exact ix) h4
theorem Nj{n:Nat}{ps:List PrS}{F:Nat->Int}(hU:j8 F)(hs:JQ ps n F)(hc:∀ p∈ps,inR n p.1=true->orI (eY n (tE ps n) F p.2.2.1).1 (F p.1.toNat)=F p.1.toNat):inN n F=inN n (tF ps n):=by
 have:IsT ps n (tE ps n) F:=by
  refine Nd.isT ⟨λi hi=>rT.1 hi,hU,hs⟩ (λp hp hr he=>?_) (λp hp hr b hb=>?_)
  ·refine rT.2 ?_
   rw[je hr]
   exact yf hp hr (λi hi=>rT.1 hi) he
  ·rw[<-hc p hp hr,dO,(j7 _ _).2 hb,dV]
 exact(JF this tT).2
set_option maxHeartbeats 1000000 in
theorem P4{g:GrS}(hg:Gs g):p52 N0 (g,())=some ((inN g.2.1.length (tF g.2.2.1 g.2.1.length),()),()):=by
 have hns:=hg.ns
 have hps:=hg.ps
 have h51:=JN hg
 obtain⟨n,hn⟩:∃ n,n=g.2.1.length:=⟨_,rfl⟩
 unfold p52
 simp only[h51]
 simp only[aL,cm,decide_eq_true_eq,<-hn,yj,aa,aC]
 rw[<-hn]at hns
 rw[if_pos ⟨by omega,by omega⟩,if_pos (by omega)]
 refine aZ (λm x r=>∃ (k:Nat) (F:Nat->Int),x=((inN n F,()),((k:Int),()))/\j8 F/\JQ g.2.2.1 n F/\nG n F+k<=n*64/\m=n*64-k/\r=some ((inN n (tF g.2.2.1 n),()),())) ?_ N0 (n*64) _ _ (by unfold N0;omega) ⟨0,_,rfl,λ_=>AN,λi b h=>by simp at h,by
  have:=jd (Cs n) (λu=>((0:Int)).toNat.testBit u.2=true)
  rw[uS]at this
  exact this,rfl,rfl⟩
 rintro m x r ⟨k,F,rfl,hU,fH,hm,rfl,rfl⟩ K hK
 have hw:IntKind.wrap .i64 (64*(n:Int))=64*(n:Int):=bC (by omega) (by omega)
 have hk1:IntKind.wrap .i64 ((k:Int)+1)=((k+1:Nat):Int):=cH (Nat.lt_succ_of_le (by omega:k<=n*64)) (by omega)
 have c:(k:Int)<=64*(n:Int):=by omega
 simp only[qk,hw,c,if_true,hk1]
 refine bT (λi=>((inN n (rdF n (tE g.2.2.1 n) (g.2.2.1.take i) (F,false)).1,()),((rdF n (tE g.2.2.1 n) (g.2.2.1.take i) (F,false)).2,((i:Int),())))) (λ_=>some ((inN n (tF g.2.2.1 n),()),())) g.2.2.1.length (λi hi L hL=>?_) N0 0 (aH _) (by unfold N0;omega)
 have hUi:j8 (rdF n (tE g.2.2.1 n) (g.2.2.1.take i) (F,false)).1:=NT (s:=(F,false)) _ hU
 rcases ap i g.2.2.1.length with hil|hil
 ·have ci:(i:Int)<(g.2.2.1.length:Int):=by omega
  have hL:=hL hil
  have hi1:IntKind.wrap .i64 ((i:Int)+1)=((i+1:Nat):Int):=cH hil (by omega)
  have sE:rdF n (tE g.2.2.1 n) (g.2.2.1.take (i+1)) (F,false)=stF n (tE g.2.2.1 n) (rdF n (tE g.2.2.1 n) (g.2.2.1.take i) (F,false)) g.2.2.1[i]:=by
   unfold rdF
   rw[dB _ _ hil,kO];rfl
  have hp:=bp hil
  have hbl:=hg.pb _ hp
  have hby:=hg.py _ hp
  simp only[ci,if_true,aX,aa,ah hil,hi1]
  rw[sE]at hL
  generalize rdF n (tE g.2.2.1 n) (g.2.2.1.take i) (F,false)=s at *
  generalize g.2.2.1[i]=p at *
  rw[<-hL]
  unfold stF
  by_cases h3:p.1<0
  ·have hr:inR n p.1=false:=by unfold inR;simp;omega
   simp[h3,hr]
  ·by_cases h4:(n:Int)<=p.1
   ·have hr:inR n p.1=false:=by unfold inR;simp;omega
    simp[h3,h4,hr,qk]
   ·have hr:inR n p.1=true:=iX.2 ⟨by omega,by omega⟩
    have hpl:p.1.toNat<n:=by omega
    have h0:0<=p.1:=by omega
    have e84:p84 N0 (bsS n (tE g.2.2.1 n),(inN n s.1,(p.2.2.1,())))=some (((eY n (tE g.2.2.1 n) s.1 p.2.2.1).1,((eY n (tE g.2.2.1 n) s.1 p.2.2.1).2,())),()):=Cq hUi N0 p.2.2.1 hby (by unfold N0;omega)
    simp only[h3,if_false,qk,h4,decide_false,av,e84,aC,h0,if_true,kw s.1 hpl,yi (iN hUi _) (hUi _),hr,ta]
    cases hs2:s.2
    ·simp
    ·simp
 ·have ci:¬(i:Int)<(g.2.2.1.length:Int):=by omega
  rw[bZ hil]at hUi |-
  simp only[ci,if_false]
  have hle:leF F (rdF n (tE g.2.2.1 n) g.2.2.1 (F,false)).1:=Cr (s:=(F,false)) _
  have JS:=D9 (n:=n) (ps:=g.2.2.1) g.2.2.1 (λ_ h=>h) (s:=(F,false)) fH
  cases hch:(rdF n (tE g.2.2.1 n) g.2.2.1 (F,false)).2
  ·obtain⟨h1,_,h3⟩:=AQ _ hch
   simp only[aJ,if_true,h1]
   rw[Nj hU fH h3]
  ·simp only[aB,av,if_false]
   rcases D8 (s:=(F,false)) _ hU hch with h|⟨a,b,h1,h2,h3,h4⟩
   ·cases h
   ·have hlt:=uT hle h1 h2 h3 h4
    exact hK _ _ _ (by omega) ⟨k+1,_,rfl,hUi,JS,by omega,rfl,rfl⟩
end
noncomputable section
abbrev TbP:=(Nat->Bool)×(Nat->Int)×Bool
def chP(n:Nat)(s:TbP)(p:PrS):Bool:=!decide (orI (s.2.1 p.1.toNat) (eY n s.1 s.2.1 p.2.2.1).1=s.2.1 p.1.toNat)||(emR n s.1 p.2.2.1&&!s.1 p.1.toNat)
def stP(n:Nat)(s:TbP)(p:PrS):TbP:=
 if(inR n p.1&&chP n s p)=true then(cZ s.1 p.1.toNat (s.1 p.1.toNat||emR n s.1 p.2.2.1),cZ s.2.1 p.1.toNat (orI (s.2.1 p.1.toNat) (eY n s.1 s.2.1 p.2.2.1).1),true)else s
def rdP(n:Nat)(ps:List PrS)(s:TbP):TbP:=ps.foldl (stP n) s
theorem ql(a b:Int):orI a b=orI b a:=by unfold orI;rw[Nat.or_comm]
structure LeP(s t:TbP):Prop where
 e:∀ i,s.1 i=true->t.1 i=true
 b:leF s.2.1 t.2.1
theorem LeP.tr{s t u:TbP}(h:LeP s t)(k:LeP t u):LeP s u:=⟨λi hi=>k.e i (h.e i hi),λi b hb=>k.b i b (h.b i b hb)⟩
theorem NU{n:Nat}{s:TbP}{p:PrS}(h:j8 s.2.1):j8 (stP n s p).2.1:=by
 unfold stP;split
 ·exact AP h (mH (h _) (iN h _))
 ·exact h
theorem Ct{n:Nat}{s:TbP}{p:PrS}:LeP s (stP n s p):=by
 unfold stP;split
 ·refine⟨λi hi=>?_,λi b hb=>?_⟩
  ·show cZ s.1 p.1.toNat _ i=true
   unfold cZ;split
   ·rename_i e;rw[<-e,hi,dV]
   ·exact hi
  ·show(cZ s.2.1 p.1.toNat _ i).toNat.testBit b=true
   unfold cZ;split
   ·rename_i e;rw[dO,<-e,hb,dV]
   ·exact hb
 ·exact⟨λ_ h=>h,λ_ _ h=>h⟩
theorem NV{n:Nat}:∀ (ps:List PrS) {s:TbP},j8 s.2.1->j8 (rdP n ps s).2.1
 |[],s,h=>h
 |p::ps,s,h=>NV (s:=stP n s p) ps (NU h)
theorem Cu{n:Nat}:∀ (ps:List PrS) {s:TbP},LeP s (rdP n ps s)
 |[],s=>⟨λ_ h=>h,λ_ _ h=>h⟩
 |p::ps,s=>Ct.tr (Cu (s:=stP n s p) ps)
def RR(n:Nat)(s t:TbP):Prop:=(∃ i b,i<n/\b<64/\(s.2.1 i).toNat.testBit b=false/\(t.2.1 i).toNat.testBit b=true)\/∃ i,i<n/\s.1 i=false/\t.1 i=true
theorem Ea{n:Nat}:∀ (ps:List PrS) {s:TbP},j8 s.2.1->(rdP n ps s).2.2=true->s.2.2=true\/RR n s (rdP n ps s)
 |[],s,_,h=>.inl h
 |p::ps,s,hU,h=>by
  have hle:=Cu (n:=n) (s:=stP n s p) ps
  rcases Ea (s:=stP n s p) ps (NU hU) h with h1|⟨i,b,h1,h2,h3,h4⟩|⟨i,h1,h3,h4⟩
  ·by_cases hc:(inR n p.1&&chP n s p)=true
   ·right
    have hst:stP n s p=(cZ s.1 p.1.toNat (s.1 p.1.toNat||emR n s.1 p.2.2.1),cZ s.2.1 p.1.toNat (orI (s.2.1 p.1.toNat) (eY n s.1 s.2.1 p.2.2.1).1),true):=by unfold stP;rw[if_pos hc]
    rw[ag]at hc
    have hr':=iX.1 hc.1
    have hch:=hc.2
    unfold chP at hch
    rw[aG]at hch
    rcases hch with hch|hch
    ·have hne:orI (eY n s.1 s.2.1 p.2.2.1).1 (s.2.1 p.1.toNat)≠s.2.1 p.1.toNat:=by
      rw[ql];simpa using hch
     obtain⟨b,hb,hb1,hb2⟩:=JP (iN hU _) (hU _) hne
     refine .inl ⟨p.1.toNat,b,by omega,hb,hb1,hle.b _ _ ?_⟩
     rw[hst]
     show(cZ s.2.1 p.1.toNat _ p.1.toNat).toNat.testBit b=true
     unfold cZ
     rw[if_pos rfl,ql]
     exact hb2
    ·rw[ag,bu]at hch
     refine .inr ⟨p.1.toNat,by omega,hch.2,hle.e _ ?_⟩
     rw[hst]
     show cZ s.1 p.1.toNat _ p.1.toNat=true
     unfold cZ
     rw[if_pos rfl,hch.1,fv]
   ·left
    have:stP n s p=s:=by unfold stP;rw[if_neg hc]
    rw[this]at h1;exact h1
  ·refine .inr (.inl ⟨i,b,h1,h2,?_,h4⟩)
   cases hb:(s.2.1 i).toNat.testBit b
   ·rfl
   ·rw[Ct.b i b hb]at h3;cases h3
  ·refine .inr (.inr ⟨i,h1,?_,h4⟩)
   cases hb:s.1 i
   ·rfl
   ·rw[Ct.e i hb]at h3;cases h3
theorem AR{n:Nat}:∀ (ps:List PrS) {s:TbP},(rdP n ps s).2.2=false->rdP n ps s=s/\s.2.2=false/\∀ p∈ps,inR n p.1=true->chP n s p=false
 |[],s,h=>⟨rfl,h,λp hp=>by cases hp⟩
 |p::ps,s,h=>by
  obtain⟨h1,h2,h3⟩:=AR (s:=stP n s p) ps h
  have hc:¬(inR n p.1&&chP n s p)=true:=λhc=>by
   unfold stP at h2
   rw[if_pos hc]at h2;cases h2
  have e1:stP n s p=s:=by unfold stP;rw[if_neg hc]
  have h1:rdP n (p::ps) s=stP n s p:=h1
  rw[e1]at h1 h2 h3
  refine⟨h1,h2,λq hq hr=>?_⟩
  rcases aA.1 hq with rfl|hq
  ·rw[hr,bF]at hc
   simpa using hc
  ·exact h3 q hq hr
structure Nk(ps:List PrS)(n:Nat)(s:TbP):Prop where
 e:∀ i,s.1 i=true->Emp ps n (i:Int)
 b:JQ ps n s.2.1
theorem Eb{n:Nat}{ps:List PrS}:∀ (l:List PrS),(∀ p∈l,p∈ps)->∀ {s:TbP},Nk ps n s->Nk ps n (rdP n l s)
 |[],_,s,h=>h
 |p::l,hl,s,h=>by
  refine Eb (s:=stP n s p) l (λq hq=>hl q (bK _ hq)) ?_
  unfold stP
  split
  ·rename_i hc
   rw[ag]at hc
   refine⟨λi hi=>?_,λi b hb=>?_⟩
   ·change cZ s.1 p.1.toNat _ i=true at hi
    unfold cZ at hi
    split at hi
    ·rename_i e
     rw[aG]at hi
     rcases hi with hi|hi
     ·rw[e];exact h.e _ hi
     ·rw[e,je hc.1]
      exact yf (hl p bE) hc.1 h.e hi
    ·exact h.e _ hi
   ·change(cZ s.2.1 p.1.toNat _ i).toNat.testBit b=true at hb
    unfold cZ at hb
    split at hb
    ·rename_i e
     rw[e]
     rw[dO,aG]at hb
     rcases hb with hb|hb
     ·exact h.b _ _ hb
     ·rw[j7]at hb
      rw[je hc.1]
      exact AM (hl p bE) hc.1 h.e h.b hb
    ·exact h.b _ _ hb
  ·exact h
theorem RS{n:Nat}{ps:List PrS}{s:TbP}(hU:j8 s.2.1)(hs:Nk ps n s)(hc:∀ p∈ps,inR n p.1=true->chP n s p=false):bsS n s.1=bsS n (tE ps n)/\inN n s.2.1=inN n (tF ps n):=by
 have hc':∀ p∈ps,inR n p.1=true->orI (s.2.1 p.1.toNat) (eY n s.1 s.2.1 p.2.2.1).1=s.2.1 p.1.toNat/\(emR n s.1 p.2.2.1=true->s.1 p.1.toNat=true):=λp hp hr=>by
  have:=hc p hp hr
  unfold chP at this
  rw[eO]at this
  refine⟨by simpa using this.1,λhe=>?_⟩
  have h2:=this.2
  rw[he,bF]at h2
  simpa using h2
 refine JF (Nd.isT ⟨hs.e,hU,hs.b⟩ (λp hp hr he=>(hc' p hp hr).2 he) (λp hp hr b hb=>?_)) tT
 rw[<-(hc' p hp hr).1,dO,(j7 _ _).2 hb,fv]
def oY(n:Nat)(s:TbP):Nat:=nG n s.2.1+ig (List.range n) λi=>s.1 i=true
theorem JT{n:Nat}{s t:TbP}(h:LeP s t)(k:RR n s t):oY n t<oY n s:=by
 have h1:nG n t.2.1<=nG n s.2.1:=qi λu _ hu=>h.b _ _ hu
 have h2:ig (List.range n) (λi=>t.1 i=true)<=ig (List.range n) (λi=>s.1 i=true):=qi λu _ hu=>h.e _ hu
 unfold oY
 rcases k with⟨i,b,k1,k2,k3,k4⟩|⟨i,k1,k3,k4⟩
 ·have:=uT h.b k1 k2 k3 k4
  omega
 ·have:=oH (U:=List.range n) (P:=λi=>s.1 i=true) (Q:=λi=>t.1 i=true) (λu _ hu=>h.e _ hu) (cD.2 k1) (by show ¬s.1 i=true;rw[k3];exact ix) k4
  omega
set_option maxHeartbeats 2000000 in
theorem P5{g:GrS}(hg:Gs g):p44 N0 (g,())=some (((bsS g.2.1.length (tE g.2.2.1 g.2.1.length),inN g.2.1.length (tF g.2.2.1 g.2.1.length)),()),()):=by
 have hns:=hg.ns
 have hps:=hg.ps
 obtain⟨n,hn⟩:∃ n,n=g.2.1.length:=⟨_,rfl⟩
 unfold p44
 simp only[aL,cm,decide_eq_true_eq,<-hn,yj,qj,aa]
 rw[<-hn]at hns
 rw[if_pos ⟨by omega,by omega⟩,if_pos (by omega),if_pos ⟨by omega,by omega⟩,if_pos (by omega)]
 refine aZ (λm x r=>∃ (s:TbP),x=((([],[]),((bsS n s.1,inN n s.2.1),())),(s.2.2,()))/\j8 s.2.1/\Nk g.2.2.1 n s/\(s.2.2=false->bsS n s.1=bsS n (tE g.2.2.1 n)/\inN n s.2.1=inN n (tF g.2.2.1 n))/\m=oY n s+(if s.2.2=true then 1 else 0)/\r=some (((bsS n (tE g.2.2.1 n),inN n (tF g.2.2.1 n)),()),())) ?_ N0 (oY n (λ_=>false,λ_=>0,true)+1) _ _ (by
  have h1:=jd (Cs n) (λu=>((0:Int)).toNat.testBit u.2=true)
  have h2:=jd (List.range n) (λi=>false=true)
  rw[uS]at h1
  rw[kN]at h2
  unfold oY nG N0
  simp only at *
  omega) ⟨(λ_=>false,λ_=>0,true),rfl,λ_=>AN,⟨(λi h=>by cases h),(λi b h=>by simp at h)⟩,λh=>(by cases h),rfl,rfl⟩
 rintro m x r ⟨s0,rfl,hU,fH,xR,rfl,rfl⟩ K hK
 obtain⟨f0,F0,m0⟩:=s0
 cases m0
 ·simp only[av,if_false]
  rw[(xR rfl).1,(xR rfl).2]
 simp only[if_true]
 simp only[if_true]at hK
 clear xR
 refine bT (λi=>((([],[]),((bsS n (rdP n (g.2.2.1.take i) (f0,F0,false)).1,inN n (rdP n (g.2.2.1.take i) (f0,F0,false)).2.1),())),((rdP n (g.2.2.1.take i) (f0,F0,false)).2.2,((i:Int),())))) (λ_=>some (((bsS n (tE g.2.2.1 n),inN n (tF g.2.2.1 n)),()),())) g.2.2.1.length (λi hi L hL=>?_) N0 0 (aH _) (by unfold N0;omega)
 have hUi:j8 (rdP n (g.2.2.1.take i) (f0,F0,false)).2.1:=NV (s:=(f0,F0,false)) _ hU
 rcases ap i g.2.2.1.length with hil|hil
 ·have ci:(i:Int)<(g.2.2.1.length:Int):=by omega
  have hL:=hL hil
  have hi1:IntKind.wrap .i64 ((i:Int)+1)=((i+1:Nat):Int):=cH hil (by omega)
  have sE:rdP n (g.2.2.1.take (i+1)) (f0,F0,false)=stP n (rdP n (g.2.2.1.take i) (f0,F0,false)) g.2.2.1[i]:=by
   unfold rdP
   rw[dB _ _ hil,kO];rfl
  have hp:=bp hil
  have hbl:=hg.pb _ hp
  have hby:=hg.py _ hp
  simp only[ci,if_true,aX,aa,ah hil,hi1]
  rw[sE]at hL
  generalize rdP n (g.2.2.1.take i) (f0,F0,false)=s at *
  generalize g.2.2.1[i]=p at *
  obtain⟨f,F,m⟩:=s
  rw[<-hL]
  clear hL hK
  unfold stP chP
  by_cases h3:p.1<0
  ·have hr:inR n p.1=false:=by unfold inR;simp;omega
   simp[h3,hr]
  ·by_cases h4:(n:Int)<=p.1
   ·have hr:inR n p.1=false:=by unfold inR;simp;omega
    simp[h3,h4,hr]
   ·have hr:inR n p.1=true:=iX.2 ⟨by omega,by omega⟩
    have hpl:p.1.toNat<n:=by omega
    have h0:0<=p.1:=by omega
    have e73:=JJ (n:=n) (f:=f) hUi hby (by unfold maxLen;omega)
    simp only[h3,if_false,h4,decide_false,av,e73,aC,h0,if_true,kw F hpl,jt f hpl,mz (hUi _) (iN hUi _),hr,ta,oJ,yd]
    by_cases hq:orI (F p.1.toNat) (eY n f F p.2.2.1).1=F p.1.toNat
    ·cases he:emR n f p.2.2.1
     ·simp[hq]
     ·cases hf:f p.1.toNat
      ·simp[hq]
      ·simp[hq]
    ·cases he:emR n f p.2.2.1
     ·cases hf:f p.1.toNat
      ·simp[hq]
      ·simp[hq]
     ·cases hf:f p.1.toNat
      ·simp[hq]
      ·simp[hq]
 ·have ci:¬(i:Int)<(g.2.2.1.length:Int):=by omega
  rw[bZ hil]at hUi |-
  simp only[ci,if_false]
  have hle:LeP (f0,F0,false) (rdP n g.2.2.1 (f0,F0,false)):=Cu (s:=(f0,F0,false)) _
  have JS:=Eb (n:=n) (ps:=g.2.2.1) g.2.2.1 (λ_ h=>h) (s:=(f0,F0,false)) ⟨fH.e,fH.b⟩
  cases hch:(rdP n g.2.2.1 (f0,F0,false)).2.2
  ·obtain⟨h1,_,h3⟩:=AR _ hch
   refine hK (oY n (f0,F0,true)) _ _ (by omega) ⟨(f0,F0,false),?_,hU,⟨fH.e,fH.b⟩,λ_=>RS (s:=(f0,F0,false)) hU ⟨fH.e,fH.b⟩ h3,rfl,rfl⟩
   rw[h1]
  ·rcases Ea (s:=(f0,F0,false)) _ hU hch with h|h
   ·cases h
   ·have hlt:oY n (rdP n g.2.2.1 (f0,F0,false))<oY n (f0,F0,true):=JT (s:=(f0,F0,false)) hle h
    refine hK (oY n (rdP n g.2.2.1 (f0,F0,false))+1) _ _ (by omega) ⟨rdP n g.2.2.1 (f0,F0,false),?_,hUi,JS,λh=>?_,?_,rfl⟩
    ·rw[hch]
    ·rw[hch]at h;cases h
    ·rw[hch,if_pos rfl]
end
noncomputable section
def ltB(x y:ItS):Bool:=decide (x.1<y.1)||(decide (x.1=y.1)&&decide (x.2.1<y.2.1))
def eqB(x y:ItS):Bool:=decide (x.1=y.1)&&decide (x.2.1=y.2.1)
theorem ky{x y:ItS}:ltB x y=true↔ltK x y:=by unfold ltB ltK;simp
theorem oK{x y:ItS}:eqB x y=true↔x.1=y.1/\x.2.1=y.2.1:=by unfold eqB;simp
def qm(x:ItS):List ItS->List ItS
 |[]=>[x]
 |y::r=>if ltB y x=true then y::qm x r else if eqB y x=true then(y.1,(y.2.1,orI y.2.2 x.2.2))::r else x::y::r
def gf(l:List ItS):List ItS:=l.foldl (λo x=>qm x o) []
theorem Gv(l:List ItS)(x:ItS):gf (l++[x])=qm x (gf l):=by unfold gf;rw[kO];rfl
theorem AS(x:ItS):∀ l,(qm x l).length<=l.length+1
 |[]=>by simp[qm]
 |y::r=>by
  have:=AS x r
  unfold qm
  split
  ·simp only[aO];omega
  ·split <;> simp
theorem AT(l:List ItS):(gf l).length<=l.length:=by
 have key:∀ (l:List ItS) (o:List ItS),(l.foldl (λo x=>qm x o) o).length<=o.length+l.length:=by
  intro l
  induction l with
  |nil=>intro o;simp
  |cons x l ih=>
   intro o
   have h1:=ih (qm x o)
   have h2:=AS x o
   simp only[qO,aO]
   omega
 have:=key l []
 simpa [gf]using this
def jk(x:ItS):List ItS->Nat
 |[]=>0
 |y::r=>if ltB y x=true then jk x r+1 else 0
theorem yk(x:ItS):∀ l,jk x l<=l.length
 |[]=>au _
 |y::r=>by
  have:=yk x r
  unfold jk
  split
  ·simp;omega
  ·simp
theorem Ec(x:ItS):∀ (l:List ItS) (k:Nat) (h:k<l.length),k<jk x l->ltK l[k] x
 |[],k,h,_=>by simp at h
 |y::r,k,h,hk=>by
  unfold jk at hk
  split at hk
  ·rename_i hy
   cases k with
   |zero=>exact ky.1 hy
   |succ k=>exact Ec x r k (by simpa using h) (by omega)
  ·omega
theorem Ee(x:ItS):∀ (l:List ItS),l.Pairwise ltK->∀ (k:Nat) (h:k<l.length),jk x l<=k->¬ltK l[k] x
 |[],_,k,h,_=>by simp at h
 |y::r,hs,k,h,hk=>by
  obtain⟨h1,h2⟩:=dH.1 hs
  unfold jk at hk
  split at hk
  ·rename_i hy
   cases k with
   |zero=>omega
   |succ k=>exact Ee x r h2 k (by simpa using h) (by omega)
  ·rename_i hy
   intro hlt
   cases k with
   |zero=>exact hy (ky.2 hlt)
   |succ k=>exact hy (ky.2 (pg (h1 _ (bp (by simpa using h))) hlt))
theorem Ef(x:ItS):∀ (l:List ItS),qm x l=(match l[jk x l]? with
 |some y=>if eqB y x=true then l.set (jk x l) (y.1,(y.2.1,orI y.2.2 x.2.2))else l.take (jk x l)++[x]++l.drop (jk x l)
 |none=>l.take (jk x l)++[x]++l.drop (jk x l))
 |[]=>rfl
 |y::r=>by
  have ih:=Ef x r
  unfold qm jk
  by_cases hy:ltB y x=true
  ·simp only[hy,if_true,jx,List.set_cons_succ,qF,List.drop_succ_cons,dS]
   rw[ih]
   cases hz:r[jk x r]? with
   |none=>rfl
   |some z=>
    simp only
    split <;> rfl
  ·simp only[hy,av,if_false,gD,qG,List.take_zero,dn,bM]
   rfl
theorem JU{A:Ato}{o:List ItS}{x:ItS}(h:Can A o)(hx:kH x):Can (λp d q=>A p d q\/At [x] p d q) (qm x o):=by
 have key:∀ (X Y:List ItS),Can A (X++Y)->(∀ a∈X,ltK a x)->Can (λp d q=>A p d q\/At [x] p d q) (X++qm x Y):=by
  intro X Y
  induction Y generalizing X with
  |nil=>intro h h1;exact D5 h hx h1 (λb hb=>by cases hb)
  |cons y Y ih=>
   intro h h1
   unfold qm
   by_cases hy:ltB y x=true
   ·rw[if_pos hy]
    have:=ih (X++[y]) (by simpa using h) (λa ha=>by
     rcases ar.1 ha with ha|ha
     ·exact h1 a ha
     ·rw[aS.1 ha];exact ky.1 hy)
    simpa using this
   ·rw[if_neg hy]
    by_cases he:eqB y x=true
    ·rw[if_pos he]
     exact PX h hx (oK.1 he).1 (oK.1 he).2
    ·rw[if_neg he]
     have hlt:ltK x y:=by
      rcases Jx x y with h|h|h
      ·exact h
      ·exact absurd (oK.2 ⟨h.1.symm,h.2.symm⟩) he
      ·exact absurd (ky.2 h) hy
     refine D5 h hx h1 λb hb=>?_
     rcases aA.1 hb with rfl|hb
     ·exact hlt
     ·exact pg hlt ((dH.1 (gH.1 h.st).2.1).1 b hb)
 exact key [] o h (λa ha=>by cases ha)
theorem lK{l:List ItS}(h:∀ x∈l,kH x):Can (At l) (gf l):=by
 have key:∀ (l:List ItS) (A:Ato) (o:List ItS),Can A o->(∀ x∈l,kH x)->Can (λp d q=>A p d q\/At l p d q) (l.foldl (λo x=>qm x o) o):=by
  intro l
  induction l with
  |nil=>intro A o h _;exact h.congr λp d q=>⟨.inl,λh=>h.elim id λh=>(Jy h).elim⟩
  |cons x l ih=>
   intro A o h hb
   refine(ih _ _ (JU h (hb x bE)) (λy hy=>hb y (bK _ hy))).congr λp d q=>?_
   rw[show x::l=[x]++l from rfl,jj]
   constructor
   ·rintro((h|h)|h)
    ·exact .inl h
    ·exact .inr (.inl h)
    ·exact .inr (.inr h)
   ·rintro(h|h|h)
    ·exact .inl (.inl h)
    ·exact .inl (.inr h)
    ·exact .inr h
 exact(key l _ [] Nb h).congr λp d q=>⟨λh=>h.elim (λh=>h.elim) id,.inr⟩
def Gw(a b:Int):Int:=if a<b then -1 else if b<a then 1 else 0
theorem Nl(a b:Int):Iw N0 (a,(b,()))=some ((Gw a b,()),()):=by
 have h138:∀ a:Int,Iv N0 (a,())=some ((false,()),()):=λa=>by unfold Iv;simp
 unfold Iw Gw
 simp only[aL,cm,decide_eq_true_eq,h138,aC]
 by_cases h1:a<b
 ·simp[h1]
 ·by_cases h2:b<a
  ·simp[h1,h2]
  ·simp[h1,h2]
def wS(x y:ItS):Int:=if x.1=y.1 then Gw x.2.1 y.2.1 else Gw x.1 y.1
theorem Eg(x y:ItS):Ix N0 (x,(y,()))=some ((wS x y,()),()):=by
 unfold Ix wS
 simp only[aL,cm,Nl,aC]
 by_cases h:x.1=y.1 <;> simp[h]
theorem AU{x y:ItS}:wS x y<0↔ltK x y:=by
 unfold wS Gw ltK
 split
 ·split
  ·omega
  ·split <;> omega
 ·split
  ·omega
  ·split <;> omega
theorem JV{x y:ItS}:wS x y=0↔eqB x y=true:=by
 rw[oK]
 unfold wS Gw
 split
 ·split
  ·omega
  ·split <;> omega
 ·split
  ·omega
  ·split <;> omega
theorem Nn{o:List ItS}(hs:o.Pairwise ltK)(hl:o.length<=1000000)(x:ItS):Mg N0 (o,(x,((),())))=some ((((jk x o:Nat):Int),((match o[jk x o]? with|some y=>eqB y x|none=>false),())),()):=by
 unfold Mg
 simp only[aL,cm,decide_eq_true_eq]
 refine aZ (λm z r=>∃ (i j:Nat),z=((),((i:Int),((j:Int),())))/\i<=j/\j<=o.length/\(∀ k (h:k<o.length),k<i->ltK o[k] x)/\(∀ k (h:k<o.length),j<=k->¬ltK o[k] x)/\m=j-i/\r=some ((((jk x o:Nat):Int),((match o[jk x o]? with|some y=>eqB y x|none=>false),())),())) ?_ N0 (o.length-0) _ _ (by unfold N0;omega) ⟨0,o.length,rfl,aH _,au _,λk _ h=>by omega,λk h1 h2=>by omega,rfl,rfl⟩
 rintro m z r ⟨i,j,rfl,hij,hj,h1,h2,rfl,rfl⟩ K hK
 rcases ap i j with h|h
 ·have c:(i:Int)<(j:Int):=by omega
  obtain⟨hh,hhe⟩:∃ hh,hh=(i+j) / 2:=⟨_,rfl⟩
  have hhl:hh<o.length:=by omega
  have e1:IntKind.wrap .i64 ((i:Int)+(j:Int))=((i+j:Nat):Int):=by rw[bC (by omega) (by omega)];simp
  have e2:IntKind.wrap .u64 ((i+j:Nat):Int)=((i+j:Nat):Int):=wrap_u64 ⟨by omega,by omega⟩
  have e3:Int.fdiv ((i+j:Nat):Int) (2 ^ (Nat.min (Int.toNat 1) (IntKind.bits .u64)))=(hh:Int):=by
   have:(2:Int) ^ (Nat.min (Int.toNat 1) (IntKind.bits .u64))=2:=by decide
   rw[this,nN _ (by omega),hhe]
   omega
  have e4:IntKind.wrap .i64 (hh:Int)=(hh:Int):=bC (by omega) (by omega)
  have e5:IntKind.wrap .i64 ((hh:Int)+1)=((hh+1:Nat):Int):=cH hhl hl
  simp only[c,if_true,show ¬(1:Int)<0 by omega,if_false,e1,e2,e3,e4,aX,aa,ah hhl,Eg,aC,e5]
  by_cases hlt:ltK o[hh] x
  ·rw[if_pos (AU.2 hlt)]
   exact hK _ _ _ (by omega) ⟨hh+1,j,rfl,by omega,hj,λk hk hki=>by
    by_cases e:k=hh
    ·subst e;exact hlt
    ·exact pg (nO.1 hs k hh hk hhl (by omega)) hlt,h2,rfl,rfl⟩
  ·rw[if_neg λh=>hlt (AU.1 h)]
   exact hK _ _ _ (by omega) ⟨i,hh,rfl,by omega,by omega,h1,λk hk hki hlk=>by
    by_cases e:k=hh
    ·subst e;exact hlt hlk
    ·exact hlt (pg (nO.1 hs hh k hhl hk (by omega)) hlk),rfl,rfl⟩
 ·have c:¬(i:Int)<(j:Int):=by omega
  have hp:jk x o=i:=by
   rcases Nat.lt_trichotomy (jk x o) i with hlt|he|hgt
   ·exact absurd (h1 _ (by omega) hlt) (Ee x o hs _ (by omega) (au _))
   ·exact he
   ·have:=yk x o
    exact absurd (Ec x o i (by omega) hgt) (h2 i (by omega) h)
  simp only[c,if_false,hp]
  rcases ap i o.length with hi|hi
  ·have ci:(i:Int)<(o.length:Int):=by omega
   simp only[ci,if_true,aX,aa,ah hi,Eg,aC,JV]
   simp
  ·have ci:¬(i:Int)<(o.length:Int):=by omega
   rw[bx hi]
   simp only[ci,if_false]
theorem JW{l:List ItS}(hb:∀ x∈l,kH x)(hl:l.length<=1000000):p79 N0 (l,())=some ((gf l,()),()):=by
 unfold p79
 simp only[aL,cm,decide_eq_true_eq]
 refine bT (λj=>((),(gf (l.take j),((j:Int),())))) (λ_=>some ((gf l,()),())) l.length (λj hj K hK=>?_) N0 0 (aH _) (by unfold N0;omega)
 rcases ap j l.length with h|h
 ·have c:(j:Int)<(l.length:Int):=by omega
  have hK:=hK h
  have hj1:IntKind.wrap .i64 ((j:Int)+1)=((j+1:Nat):Int):=cH h hl
  rw[dB _ _ h,Gv]at hK
  have JX:=lK (l:=l.take j) λx hx=>hb x (qA hx)
  have hcl:=AT (l.take j)
  rw[aK]at hcl
  have hx:=hb _ (bp h)
  simp only[c,if_true,aX,aa,ah h,hj1]
  generalize l[j]=x at *
  generalize gf (l.take j)=o at *
  rw[Nn JX.st (by omega) x]
  simp only[aC]
  rw[Ef]at hK
  have hpl:=yk x o
  have h102:Ah N0 (o,(((jk x o:Nat):Int),([x],())))=some ((o.take (jk x o)++[x]++o.drop (jk x o),()),()):=by
   unfold Ah
   simp only[aa]
   rw[if_pos ⟨rfl,by omega,hpl,by omega⟩]
  rw[<-hK]
  cases hp:o[jk x o]? with
  |none=>
   simp only[av,if_false]
   rw[h102]
   rfl
  |some y=>
   have hy:=JX.bd y (dg hp)
   cases he:eqB y x
   ·simp only[av,if_false,he]
    rw[h102]
    rfl
   ·simp only[if_true,he,aX,aa,hp,mz hy hx]
 ·have c:¬(j:Int)<(l.length:Int):=by omega
  simp only[c,if_false]
  rw[bZ h]
end
noncomputable section
def pn(o:List ItS)(x:ItS):Bool:=match o[o.length-1]? with
 |none=>true
 |some y=>ltB y x
theorem uU{o:List ItS}(hs:o.Pairwise ltK){x:ItS}:pn o x=true↔∀ y∈o,ltK y x:=by
 unfold pn
 by_cases ho:o=[]
 ·subst ho;simp
 ·have hl:o.length-1<o.length:=by have:=List.length_pos_iff.2 ho;omega
  rw[ah hl]
  simp only[ky]
  constructor
  ·intro h y hy
   obtain⟨i,hi,rfl⟩:=fo.1 hy
   by_cases e:i=o.length-1
   ·subst e;exact h
   ·exact pg (nO.1 hs i (o.length-1) hi hl (by omega)) h
  ·intro h;exact h _ (bp hl)
def lsN(l o:List ItS):Nat->Int
 |0=>-1
 |j+1=>match l[j]? with
  |some x=>if(pn o x&&(decide (lsN l o j<0)||(match l[(lsN l o j).toNat]? with
   |some z=>ltB x z
   |none=>false)))=true then(j:Int)else lsN l o j
  |none=>lsN l o j
theorem yl(l o:List ItS):∀ j,-1<=lsN l o j/\lsN l o j<j
 |0=>⟨by show(-1:Int)<=-1;omega,by show(-1:Int)<0;omega⟩
 |j+1=>by
  have ih:=yl l o j
  unfold lsN
  split
  ·split <;> omega
  ·omega
theorem AV(l o:List ItS):∀ j,j<=l.length->(lsN l o j<0->∀ k (h:k<l.length),k<j->pn o l[k]=false)/\
 (0<=lsN l o j->∃ i,∃ h:i<l.length,lsN l o j=(i:Int)/\i<j/\pn o l[i]=true/\∀ k (h':k<l.length),k<j->pn o l[k]=true->¬ltK l[k] l[i])
 |0,_=>⟨λ_ k h hk=>by omega,λh=>by have:=yl l o 0;omega⟩
 |j+1,hj=>by
  obtain⟨ih1,ih2⟩:=AV l o j (by omega)
  have hjl:j<l.length:=by omega
  unfold lsN
  rw[ah hjl]
  simp only
  by_cases hc:(pn o l[j]&&(decide (lsN l o j<0)||(match l[(lsN l o j).toNat]? with
   |some z=>ltB l[j] z
   |none=>false)))=true
  ·rw[if_pos hc]
   rw[ag,aG]at hc
   refine⟨λh=>by omega,λ_=>⟨j,hjl,rfl,by omega,hc.1,λk hk hkj hak=>?_⟩⟩
   by_cases e:k=j
   ·subst e;exact λh=>qh h
   ·rcases hc.2 with h|h
    ·have:=ih1 (by simpa using h) k hk (by omega)
     rw[this]at hak;cases hak
    ·by_cases Gx:lsN l o j<0
     ·have:=ih1 Gx k hk (by omega)
      rw[this]at hak;cases hak
     ·obtain⟨i,hi,e1,e2,e3,e4⟩:=ih2 (by omega)
      rw[e1,aa,ah hi]at h
      have h:=ky.1 h
      intro hlt
      exact e4 k hk (by omega) hak (pg hlt h)
  ·rw[if_neg hc]
   constructor
   ·intro Gx k hk hkj
    by_cases e:k=j
    ·subst e
     cases ha:pn o l[k]
     ·rfl
     ·exact absurd (by rw[ha];simp[Gx]) hc
    ·exact ih1 Gx k hk (by omega)
   ·intro hnn
    obtain⟨i,hi,e1,e2,e3,e4⟩:=ih2 hnn
    refine⟨i,hi,e1,by omega,e3,λk hk hkj hak=>?_⟩
    by_cases e:k=j
    ·subst e
     intro hlt
     refine hc ?_
     rw[hak,e1,aa,ah hi]
     simp only[ky.2 hlt,fv,Bool.and_self]
    ·exact e4 k hk (by omega) hak
def orN(l:List ItS)(x:ItS):Nat->Int
 |0=>0
 |j+1=>match l[j]? with
  |some z=>if eqB z x=true then orI (orN l x j) z.2.2 else orN l x j
  |none=>orN l x j
theorem JY(l:List ItS)(x:ItS)(j:Nat):orN l x (j+1)=(match l[j]? with
 |some z=>if eqB z x=true then orI (orN l x j) z.2.2 else orN l x j
 |none=>orN l x j):=rfl
theorem AW{l:List ItS}(hb:∀ x∈l,kH x)(x:ItS):∀ j,U64 (orN l x j)
 |0=>AN
 |j+1=>by
  unfold orN
  split
  ·rename_i z hz
   split
   ·exact mH (AW hb x j) (hb z (dg hz))
   ·exact AW hb x j
  ·exact AW hb x j
theorem Eh(l:List ItS)(x:ItS)(b:Nat):∀ j,(orN l x j).toNat.testBit b=true↔∃ k,k<j/\∃ z,l[k]?=some z/\z.1=x.1/\z.2.1=x.2.1/\z.2.2.toNat.testBit b=true
 |0=>by simp[orN]
 |j+1=>by
  have ih:=Eh l x b j
  have key:(∃ k,k<j+1/\∃ z,l[k]?=some z/\z.1=x.1/\z.2.1=x.2.1/\z.2.2.toNat.testBit b=true)↔(∃ k,k<j/\∃ z,l[k]?=some z/\z.1=x.1/\z.2.1=x.2.1/\z.2.2.toNat.testBit b=true)\/(∃ z,l[j]?=some z/\z.1=x.1/\z.2.1=x.2.1/\z.2.2.toNat.testBit b=true):=by
   constructor
   ·rintro⟨k,hk,h⟩
    by_cases e:k=j
    ·subst e;exact .inr h
    ·exact .inl ⟨k,by omega,h⟩
   ·rintro(⟨k,hk,h⟩|h)
    ·exact⟨k,by omega,h⟩
    ·exact⟨j,by omega,h⟩
  rw[key,<-ih,JY]
  cases hz:l[j]? with
  |none=>simp
  |some z=>
   simp only
   by_cases he:eqB z x=true
   ·rw[if_pos he,dO,aG]
    have:=oK.1 he
    constructor
    ·rintro(h|h)
     ·exact .inl h
     ·exact .inr ⟨z,rfl,this.1,this.2,h⟩
    ·rintro(h|⟨z',e,_,_,h⟩)
     ·exact .inl h
     ·cases e;exact .inr h
   ·rw[if_neg he]
    constructor
    ·exact .inl
    ·rintro(h|⟨z',e,h1,h2,_⟩)
     ·exact h
     ·cases e;exact absurd (oK.2 ⟨h1,h2⟩) he
structure Part(l o:List ItS):Prop where
 st:o.Pairwise ltK
 bd:∀ x∈o,kH x
 le:∀ y∈o,(∃ x∈l,x.1=y.1/\x.2.1=y.2.1)/\∀ b,y.2.2.toNat.testBit b=true↔∃ x∈l,x.1=y.1/\x.2.1=y.2.1/\x.2.2.toNat.testBit b=true
 al:∀ x∈l,(∃ y∈o,y.1=x.1/\y.2.1=x.2.1)\/∀ y∈o,ltK y x
theorem Part.can{l o:List ItS}(h:Part l o)(fT:∀ x∈l,∃ y∈o,y.1=x.1/\y.2.1=x.2.1):Can (At l) o:=by
 refine⟨h.st,h.bd,λp d q=>?_⟩
 cases q with
 |none=>
  constructor
  ·rintro⟨y,hy,rfl,rfl⟩;exact(h.le y hy).1
  ·rintro⟨x,hx,rfl,rfl⟩
   obtain⟨y,hy,e1,e2⟩:=fT x hx
   exact⟨y,hy,e1,e2⟩
 |some b=>
  constructor
  ·rintro⟨y,hy,rfl,rfl,hb⟩;exact((h.le y hy).2 b).1 hb
  ·rintro⟨x,hx,rfl,rfl,hb⟩
   obtain⟨y,hy,e1,e2⟩:=fT x hx
   exact⟨y,hy,e1,e2,((h.le y hy).2 b).2 ⟨x,hx,e1.symm,e2.symm,hb⟩⟩
theorem Cv{o:List ItS}(h:o.Pairwise ltK):o.Nodup:=h.imp λ{a b} hab e=>by subst e;exact qh hab
theorem Part.full{l o:List ItS}(h:Part l o)(hl:l.length<=o.length):∀ x∈l,∃ y∈o,y.1=x.1/\y.2.1=x.2.1:=by
 intro x hx
 rcases h.al x hx with h1|h1
 ·exact h1
 ·exfalso
  have hs:(o++[x]).Pairwise ltK:=gH.2 ⟨h.st,nP _ _,λa ha b hb=>by rw[aS.1 hb];exact h1 a ha⟩
  have:=rE (λ(y:ItS) (c:Nat)=>y∈o++[x]/\∃ z,l[c]?=some z/\z.1=y.1/\z.2.1=y.2.1) (λy y' c hy hy'=>by
   obtain⟨m1,z,e1,e2,e3⟩:=hy
   obtain⟨m2,z',f1,f2,f3⟩:=hy'
   rw[e1]at f1;cases f1
   exact pj hs y m1 y' m2 (by omega) (by omega)) l.length (o++[x]) (Cv hs) (λy hy=>by
   have:∃ z∈l,z.1=y.1/\z.2.1=y.2.1:=by
    rcases ar.1 hy with hy|hy
    ·exact(h.le y hy).1
    ·rw[aS.1 hy];exact⟨x,hx,rfl,rfl⟩
   obtain⟨z,hz,e1,e2⟩:=this
   obtain⟨c,hc,rfl⟩:=fo.1 hz
   exact⟨c,hc,hy,_,ah hc,e1,e2⟩)
  rw[ak]at this
  simp at this
  omega
theorem Part.more{l o:List ItS}(h:Part l o)(hb:∀ x∈l,kH x){i:Nat}(hi:i<l.length)(ha:pn o l[i]=true)(P6:∀ k (h':k<l.length),pn o l[k]=true->¬ltK l[k] l[i]):
 Part l (o++[(l[i].1,(l[i].2.1,orN l l[i] l.length))]):=by
 have hab:=(uU h.st).1 ha
 refine⟨gH.2 ⟨h.st,nP _ _,λa ha' b hb'=>by rw[aS.1 hb'];exact hab a ha'⟩,λy hy=>?_,λy hy=>?_,λx hx=>?_⟩
 ·rcases ar.1 hy with hy|hy
  ·exact h.bd y hy
  ·rw[aS.1 hy];exact AW hb _ _
 ·rcases ar.1 hy with hy|hy
  ·exact h.le y hy
  ·rw[aS.1 hy]
   refine⟨⟨_,bp hi,rfl,rfl⟩,λb=>?_⟩
   show(orN l l[i] l.length).toNat.testBit b=true↔_
   rw[Eh]
   constructor
   ·rintro⟨k,_,z,hz,e⟩;exact⟨z,dg hz,e⟩
   ·rintro⟨z,hz,e⟩
    obtain⟨k,hk,rfl⟩:=fo.1 hz
    exact⟨k,hk,_,ah hk,e⟩
 ·rcases h.al x hx with⟨y,hy,e⟩|h1
  ·exact .inl ⟨y,ar.2 (.inl hy),e⟩
  ·obtain⟨k,hk,rfl⟩:=fo.1 hx
   have hk':=P6 k hk ((uU h.st).2 h1)
   rcases Jx l[i] l[k]with e|e|e
   ·refine .inr λy hy=>?_
    rcases ar.1 hy with hy|hy
    ·exact h1 y hy
    ·rw[aS.1 hy];exact e
   ·exact .inl ⟨_,ar.2 (.inr (aS.2 rfl)),e⟩
   ·exact absurd e hk'
set_option maxHeartbeats 2000000 in
theorem Cw{l:List ItS}(hb:∀ x∈l,kH x)(hl:l.length<=1000000):p53 N0 (l,())=some ((gf l,()),()):=by
 unfold p53
 simp only[aL,cm,decide_eq_true_eq]
 have JX:=lK hb
 refine aZ (λm z r=>∃ (o:List ItS),z=((),(o,(((o.length:Nat):Int),())))/\Part l o/\o.length<=l.length/\m=l.length-o.length/\r=some ((gf l,()),())) ?_ N0 l.length _ _ (by unfold N0;omega) ⟨[],rfl,⟨.nil,(λx h=>by cases h),(λx h=>by cases h),λx hx=>.inr λy hy=>by cases hy⟩,aH _,rfl,rfl⟩
 rintro m z r ⟨o,rfl,hp,hol,rfl,rfl⟩ K hK
 rcases ap o.length l.length with h|h
 case inr=>
  have c:¬(o.length:Int)<(l.length:Int):=by omega
  simp only[c,if_false]
  rw[(hp.can (hp.full h)).Cp JX]
 have c:(o.length:Int)<(l.length:Int):=by omega
 have ho1:IntKind.wrap .i64 ((o.length:Int)+1)=((o.length+1:Nat):Int):=cH h (by omega)
 simp only[c,if_true,ho1]
 refine bT (λj=>((o,()),(lsN l o j,((j:Int),())))) (λ_=>some ((gf l,()),())) l.length (λj hj L hL=>?_) N0 0 (aH _) (by unfold N0;omega)
 rcases ap j l.length with hjl|hjl
 ·have cj:(j:Int)<(l.length:Int):=by omega
  have hL:=hL hjl
  have hj1:IntKind.wrap .i64 ((j:Int)+1)=((j+1:Nat):Int):=cH hjl (by omega)
  have hr:=yl l o j
  simp only[cj,if_true,aX,aa,ah hjl,hj1]
  unfold lsN at hL
  rw[ah hjl]at hL
  simp only at hL
  generalize l[j]=x at *
  rw[<-hL]
  clear hL hK
  -- is it UP
  have ab:∀ (T1 T2:Option ((List ItS×Unit)×Unit)),(if((o.length:Nat):Int)=0 then T1 else if 0<=IntKind.wrap .i64 ((o.length:Int)-1)then(match o[(IntKind.wrap .i64 ((o.length:Int)-1)).toNat]? with
   |some y=>if y.1<x.1 then T1 else if 0<=IntKind.wrap .i64 ((o.length:Int)-1)then(match o[(IntKind.wrap .i64 ((o.length:Int)-1)).toNat]? with
    |some y=>if x.1=y.1 then(if 0<=IntKind.wrap .i64 ((o.length:Int)-1)then(match o[(IntKind.wrap .i64 ((o.length:Int)-1)).toNat]? with
     |some y=>if y.2.1<x.2.1 then T1 else T2
     |none=>none)else none)else T2
    |none=>none)else none
   |none=>none)else none)=if pn o x=true then T1 else T2:=λT1 T2=>by
   by_cases ho:o.length=0
   ·have:o=[]:=qy.1 ho
    subst this
    simp[pn]
   ·have hw:IntKind.wrap .i64 ((o.length:Int)-1)=((o.length-1:Nat):Int):=by rw[bC (by omega) (by omega)];omega
    have UQ:o.length-1<o.length:=by omega
    unfold pn
    have hz:¬((o.length:Nat):Int)=0:=by omega
    simp only[hz,if_false,hw,aX,aa,if_true,ah UQ]
    generalize o[o.length-1]=y
    unfold ltB
    by_cases h1:y.1<x.1
    ·simp[h1]
    ·by_cases h2:x.1=y.1
     ·by_cases h3:y.2.1<x.2.1
      ·simp[h2,h3]
      ·simp[h2,h3]
     ·have h2':¬y.1=x.1:=λe=>h2 e.symm
      simp[h1,h2,h2']
  by_cases hn:lsN l o j<0
  ·simp only[hn,if_true,av,if_false]
   refine(ab _ _).trans ?_
   cases pn o x <;> simp
  ·have hnn:0<=lsN l o j:=by omega
   have hil:(lsN l o j).toNat<l.length:=by omega
   rw[ah hil]
   generalize l[(lsN l o j).toNat]=w
   simp only[hn,if_true,av,if_false,hnn,decide_false,cP]
   refine(ab _ _).trans ?_
   unfold ltB
   cases pn o x
   ·simp
   ·by_cases h1:x.1<w.1
    ·simp[h1]
    ·by_cases h2:x.1=w.1
     ·by_cases h3:x.2.1<w.2.1
      ·simp[h2,h3]
      ·simp[h2,h3]
     ·simp[h1,h2]
 ·have cj:¬(j:Int)<(l.length:Int):=by omega
  have hje:j=l.length:=by omega
  subst hje
  simp only[cj,if_false]
  obtain⟨s1,s2⟩:=AV l o l.length (au _)
  by_cases hn:lsN l o l.length<0
  ·rw[if_pos hn]
   have fT:∀ x∈l,∃ y∈o,y.1=x.1/\y.2.1=x.2.1:=λx hx=>by
    rcases hp.al x hx with h1|h1
    ·exact h1
    ·obtain⟨k,hk,rfl⟩:=fo.1 hx
     have:=s1 hn k hk hk
     rw[(uU hp.st).2 h1]at this;cases this
   rw[(hp.can fT).Cp JX]
  ·obtain⟨i,hi,e1,_,e3,e4⟩:=s2 (by omega)
   have hpm:=hp.more hb hi e3 (λk hk=>e4 k hk hk)
   simp only[e1,show ¬(i:Int)<0 by omega,if_false,aX,aa,if_true,ah hi]
   refine bT (λj=>((o,((l[i].1,(l[i].2.1,orN l l[i] j)),())),((j:Int),()))) (λ_=>some ((gf l,()),())) l.length (λj hj M hM=>?_) N0 0 (aH _) (by unfold N0;omega)
   rcases ap j l.length with hjl|hjl
   ·have cj:(j:Int)<(l.length:Int):=by omega
    have hM:=hM hjl
    have hj1:IntKind.wrap .i64 ((j:Int)+1)=((j+1:Nat):Int):=cH hjl (by omega)
    have hw:=hb _ (bp hjl)
    simp only[cj,if_true,aX,aa,ah hjl,hj1]
    unfold orN at hM
    rw[ah hjl]at hM
    simp only at hM
    rw[<-hM]
    unfold eqB
    by_cases h1:l[j].1=l[i].1
    ·by_cases h2:l[j].2.1=l[i].2.1
     ·simp[h1,h2,yi (AW hb l[i] j) hw]
     ·simp[h1,h2]
    ·simp[h1]
   ·have cj:¬(j:Int)<(l.length:Int):=by omega
    have hje:j=l.length:=by omega
    subst hje
    simp only[cj,if_false,aO,bJ]
    rw[if_pos (by omega),if_pos (by omega)]
    refine hK (l.length-(o.length+1)) _ _ (by omega) ⟨o++[(l[i].1,(l[i].2.1,orN l l[i] l.length))],?_,hpm,by simp;omega,by simp,rfl⟩
    simp
end
noncomputable section
def eE(g:GrS)(q:Int):List SyS×Bool:=
 if 0<=q/\q<(g.2.2.1.length:Int)then(match g.2.2.1[q.toNat]? with
  |some p=>(p.2.2.1,true)
  |none=>([],true))else if q=(g.2.2.1.length:Int)then([(true,g.2.2.2.2)],true)else([],false)
theorem JZ(g:GrS)(q:Int):p87 N0 (g,(q,()))=some (((eE g q).1,((eE g q).2,())),()):=by
 unfold p87 eE
 simp only[aL,cm,decide_eq_true_eq]
 by_cases h1:0<=q
 ·by_cases h2:q<(g.2.2.1.length:Int)
  ·have hl:q.toNat<g.2.2.1.length:=by omega
   simp[h1,h2,ah hl]
  ·by_cases h3:q=(g.2.2.1.length:Int)
   ·simp[h3]
   ·simp[h1,h2,h3]
 ·by_cases h3:q=(g.2.2.1.length:Int)
  ·omega
  ·simp[h1,h3]
theorem J0(g:GrS)(q:Int):p29 N0 (g,(q,()))=some (((eE g q).1,((eE g q).2,())),()):=by
 unfold p29 eE
 simp only[aL,cm,decide_eq_true_eq]
 by_cases h1:0<=q
 ·have h1':¬q<0:=by omega
  by_cases h2:q<(g.2.2.1.length:Int)
  ·have hl:q.toNat<g.2.2.1.length:=by omega
   have h3:¬(g.2.2.1.length:Int)<q:=by omega
   have h4:¬q=(g.2.2.1.length:Int):=by omega
   simp[h1,h1',h2,h3,h4,ah hl]
  ·by_cases h3:q=(g.2.2.1.length:Int)
   ·simp[h3]
   ·have h4:(g.2.2.1.length:Int)<q:=by omega
    simp[h1,h1',h2,h3,h4]
 ·have h1':q<0:=by omega
  by_cases h3:q=(g.2.2.1.length:Int)
  ·omega
  ·simp[h1,h1',h3]
theorem oL{g:GrS}(hg:Gs g)(q:Int):(eE g q).1.length<=20:=by
 unfold eE
 split
 ·split
  ·rename_i p hp;exact hg.pb p (dg hp)
  ·simp
 ·split <;> simp
theorem AX{g:GrS}(hg:Gs g)(q:Int):Gu (eE g q).1:=by
 unfold eE
 split
 ·split
  ·rename_i p hp;exact hg.py p (dg hp)
  ·intro y hy;cases hy
 ·split
  ·intro y hy
   rw[aS.1 hy];exact hg.st
  ·intro y hy;cases hy
theorem J1{g:GrS}{q:Int}(h:(eE g q).1≠[]):0<=q/\q<=(g.2.2.1.length:Int):=by
 unfold eE at h
 split at h
 ·omega
 ·split at h
  ·omega
  ·exact absurd rfl h
def gg(g:GrS)(q d:Int):Option SyS:=if d<0 then none else(eE g q).1[d.toNat]?
theorem Cx{g:GrS}{q d:Int}{y:SyS}(h:gg g q d=some y):0<=d/\d.toNat<(eE g q).1.length:=by
 unfold gg at h
 split at h
 ·cases h
 ·exact⟨by omega,(bw.1 h).1⟩
theorem P7{g:GrS}(hg:Gs g){q d:Int}{y:SyS}(h:gg g q d=some y):0<=q/\q<=12/\0<=d/\d<=19:=by
 have h1:=Cx h
 have h2:=oL hg q
 have h3:=J1 (g:=g) (q:=q) (λe=>by rw[e]at h1;simp at h1)
 have h4:=hg.ps
 omega
theorem Cy(g:GrS)(x:ItS):p75 N0 (g,(x,()))=some ((match gg g x.1 x.2.1 with
 |some y=>(y,(true,()))
 |none=>((false,0),(false,()))),()):=by
 unfold p75 gg
 simp only[aL,cm,decide_eq_true_eq,JZ,aC]
 by_cases h1:x.2.1<0
 ·simp[h1]
 ·cases hb:(eE g x.1).2
  ·have:(eE g x.1).1=[]:=by
    unfold eE at hb |-
    split at hb
    ·split at hb <;> cases hb
    ·split at hb
     ·cases hb
     ·rename_i h2 h3;rw[if_neg h2,if_neg h3]
   simp[h1,this]
  ·by_cases h2:((eE g x.1).1.length:Int)<=x.2.1
   ·have:(eE g x.1).1.length<=x.2.1.toNat:=by omega
    simp[h1,h2,bx this]
   ·have hl:x.2.1.toNat<(eE g x.1).1.length:=by omega
    have h0:0<=x.2.1:=by omega
    simp[h1,h2,h0,ah hl]
theorem Cz(g:GrS)(x:ItS):p54 N0 (g,(x,()))=some ((match gg g x.1 x.2.1 with
 |some y=>(y,(true,()))
 |none=>((false,0),(false,()))),()):=by
 unfold p54 gg
 simp only[aL,cm,decide_eq_true_eq,J0,aC]
 by_cases h1:x.2.1<0
 ·simp[h1]
 ·by_cases h2:((eE g x.1).1.length:Int)<=x.2.1
  ·have:(eE g x.1).1.length<=x.2.1.toNat:=by omega
   simp[h1,h2,bx this]
  ·have hl:x.2.1.toNat<(eE g x.1).1.length:=by omega
   have h0:0<=x.2.1:=by omega
   simp[h1,h2,h0,ah hl]
def sF(g:GrS)(q d:Int):List SyS:=(eE g q).1.drop (d.toNat+1)
theorem uV{α:Type}(b:List α)(n:Nat):cz b (n:Int) (b.length:Int)=b.drop n:=by
 unfold cz
 rw[aa,aa,bZ (by rw[bA];exact au _)]
theorem P8{g:GrS}(hg:Gs g){x:ItS}{y:SyS}(h:gg g x.1 x.2.1=some y):p78 N0 (g,(x,()))=some ((sF g x.1 x.2.1,()),()):=by
 obtain⟨h1,h2⟩:=Cx h
 have h3:=oL hg x.1
 unfold p78 sF
 simp only[aL,cm,decide_eq_true_eq,JZ,aC]
 have h1':¬x.2.1<0:=by omega
 have hw:IntKind.wrap .i64 (((eE g x.1).1.length:Int)-1)=((eE g x.1).1.length:Int)-1:=bC (by omega) (by omega)
 have hw2:IntKind.wrap .i64 (x.2.1+1)=((x.2.1.toNat+1:Nat):Int):=by rw[bC (by omega) (by omega)];omega
 simp only[h1',if_false,hw,hw2]
 by_cases wN:((eE g x.1).1.length:Int)-1<=x.2.1
 ·have:(eE g x.1).1.drop (x.2.1.toNat+1)=[]:=fk (by omega)
  simp[wN,this]
 ·rw[if_neg (by simpa using wN),if_pos ⟨by omega,by omega,by omega⟩,uV]
def stG(g:GrS)(p d q:Int):Prop:=∃ (k:Nat) (pr:PrS),q=(k:Int)/\g.2.2.1[k]?=some pr/\gg g p d=some (true,pr.1)
def fsG(g:GrS)(p d:Int)(b:Nat):Prop:=Beg g.2.1.length (tE g.2.2.1 g.2.1.length) (tF g.2.2.1 g.2.1.length) (sF g p d) b
def nlG(g:GrS)(p d:Int):Prop:=emR g.2.1.length (tE g.2.2.1 g.2.1.length) (sF g p d)=true
def wG(g:GrS)(p d look:Int):Int:=ye g.2.1.length (tE g.2.2.1 g.2.1.length) (tF g.2.2.1 g.2.1.length) (sF g p d) look
theorem No{g:GrS}{p d look:Int}(h:U64 look):U64 (wG g p d look):=PY (λi=>JM i) h
theorem rU{g:GrS}{p d look:Int}{b:Nat}:(wG g p d look).toNat.testBit b=true↔fsG g p d b\/nlG g p d/\look.toNat.testBit b=true:=JD
def ClG(g:GrS)(l:List ItS):Ato:=Cl (stG g) (fsG g) (nlG g) (At l)
theorem J2{g:GrS}{p d:Int}{b:Nat}(h:fsG g p d b):b<64:=by
 obtain⟨pre,y,post,_,_,h|h⟩:=h
 ·omega
 ·exact NR (JM _) h.2.2
theorem CA{g:GrS}(hg:Gs g){p d q:Int}(h:stG g p d q):0<=q/\q<=12:=by
 obtain⟨k,pr,rfl,h1,_⟩:=h
 have:=(bw.1 h1).1
 have:=hg.ps
 omega
structure OkI(l:List ItS):Prop where
 bd:∀ x∈l,kH x
 rg:∀ x∈l,0<=x.1/\x.1<=12/\0<=x.2.1/\x.2.1<=20
theorem OkI.inU{l:List ItS}(h:OkI l){p d:Int}{o:Option Nat}(ha:At l p d o):InU 12 p d o:=by
 cases o with
 |none=>
  obtain⟨x,hx,rfl,rfl⟩:=ha
  have:=h.rg x hx
  exact⟨this.1,this.2.1,this.2.2.1,this.2.2.2,λb e=>by cases e⟩
 |some b=>
  obtain⟨x,hx,rfl,rfl,hb⟩:=ha
  have:=h.rg x hx
  exact⟨this.1,this.2.1,this.2.2.1,this.2.2.2,λb' e=>by cases e;exact NR (h.bd x hx) hb⟩
theorem ClG.inU{g:GrS}(hg:Gs g){l:List ItS}(h:OkI l){p d:Int}{o:Option Nat}(ha:ClG g l p d o):InU 12 p d o:=by
 unfold ClG at ha
 cases ha with
 |base h1=>exact h.inU h1
 |there h1 h2=>
  have:=CA hg h2
  exact⟨this.1,this.2,jF _,by omega,λb e=>by cases e⟩
 |first h1 h2 h3=>
  have:=CA hg h2
  exact⟨this.1,this.2,jF _,by omega,λb e=>by cases e;exact J2 h3⟩
 |look h1 h2 h3=>
  have:=CA hg h2
  have key:∀ {p d:Int} {o:Option Nat},Cl (stG g) (fsG g) (nlG g) (At l) p d o->∀ b,o=some b->b<64:=by
   intro p d o hc
   induction hc with
   |base h1=>exact(h.inU h1).b
   |there _ _ _=>intro b e;cases e
   |first _ _ h3 _=>intro b e;cases e;exact J2 h3
   |look _ _ _ ih=>intro b e;cases e;exact ih _ rfl
  exact⟨this.1,this.2,jF _,by omega,λb e=>by cases e;exact key h1 _ rfl⟩
theorem ClG.P9{g:GrS}{l:List ItS}{p d:Int}{o:Option Nat}(ha:ClG g l p d o):ClG g l p d none:=by
 unfold ClG at *
 induction ha with
 |base h1=>exact .base h1.there
 |there h1 h2 _=>exact .there h1 h2
 |first h1 h2 _ _=>exact .there h1 h2
 |look _ h2 _ ih=>exact .there ih h2
def J3(A:Ato):List ItS:=by
 classical exact(List.range 13).flatMap λ(p:Nat)=>(List.range 21).flatMap λ(d:Nat)=>if A p d none then [((p:Int),((d:Int),((kh (λb=>decide (A p d (some b))) 64:Nat):Int)))]else []
theorem nH{A:Ato}{x:ItS}:x∈J3 A↔∃ p d:Nat,p<13/\d<21/\A p d none/\x.1=(p:Int)/\x.2.1=(d:Int)/\U64 x.2.2/\∀ b,x.2.2.toNat.testBit b=true↔b<64/\A p d (some b):=by
 classical
 unfold J3
 simp only[dU,cD]
 constructor
 ·rintro⟨p,hp,d,hd,hx⟩
  split at hx
  ·rename_i ha
   rw[aS.1 hx]
   refine⟨p,d,hp,hd,ha,rfl,rfl,pk _,λb=>?_⟩
   show(Int.toNat ((kh _ 64:Nat):Int)).testBit b=true↔_
   rw[aa,jf]
   simp
  ·cases hx
 ·rintro⟨p,d,hp,hd,ha,e1,e2,hU,hb⟩
  refine⟨p,hp,d,hd,?_⟩
  rw[if_pos ha]
  refine aS.2 ?_
  obtain⟨x1,x2,x3⟩:=x
  simp only at e1 e2 hU hb
  rw[e1,e2]
  congr 2
  refine AL hU (pk _) λb Vg=>?_
  rw[aa,jf,cd,hb]
  simp
theorem J4{A:Ato}(h1:∀ p d o,A p d o->InU 12 p d o)(h2:∀ p d o,A p d o->A p d none):Can A (J3 A):=by
 refine⟨?_,λx hx=>?_,λp d o=>?_⟩
 ·have hr:∀ n,(List.range n).Pairwise (λa b=>a<b):=λn=>List.pairwise_lt_range
  classical
  unfold J3
  refine List.pairwise_flatMap.2 ⟨λp _=>List.pairwise_flatMap.2 ⟨λd _=>?_,?_⟩,?_⟩
  ·split
   ·exact nP _ _
   ·exact .nil
  ·refine List.Pairwise.imp ?_ (hr 21)
   intro a b hab x hx y hy
   split at hx
   ·split at hy
    ·rw[aS.1 hx,aS.1 hy]
     exact .inr ⟨rfl,by show(a:Int)<(b:Int);omega⟩
    ·cases hy
   ·cases hx
  ·refine List.Pairwise.imp ?_ (hr 13)
   intro a b hab x hx y hy
   obtain⟨d,_,hx⟩:=dU.1 hx
   obtain⟨d',_,hy⟩:=dU.1 hy
   split at hx
   ·split at hy
    ·rw[aS.1 hx,aS.1 hy]
     exact .inl (by show(a:Int)<(b:Int);omega)
    ·cases hy
   ·cases hx
 ·obtain⟨p,d,_,_,_,_,_,h,_⟩:=nH.1 hx
  exact h
 ·cases o with
  |none=>
   constructor
   ·rintro⟨x,hx,rfl,rfl⟩
    obtain⟨p,d,_,_,ha,e1,e2,_⟩:=nH.1 hx
    rw[e1,e2];exact ha
   ·intro ha
    have hu:=h1 _ _ _ ha
    have u1:=hu.p0
    have u2:=hu.p1
    have u3:=hu.d0
    have u4:=hu.d1
    obtain⟨P,rfl⟩:∃ P:Nat,p=(P:Int):=⟨p.toNat,by omega⟩
    obtain⟨D,rfl⟩:∃ D:Nat,d=(D:Int):=⟨d.toNat,by omega⟩
    classical
    refine⟨((P:Int),((D:Int),((kh (λb=>decide (A P D (some b))) 64:Nat):Int))),nH.2 ⟨P,D,by omega,by omega,ha,rfl,rfl,pk _,λb=>?_⟩,rfl,rfl⟩
    show(Int.toNat ((kh _ 64:Nat):Int)).testBit b=true↔_
    rw[aa,jf]
    simp
  |some b=>
   constructor
   ·rintro⟨x,hx,rfl,rfl,hb⟩
    obtain⟨p,d,_,_,ha,e1,e2,_,Np⟩:=nH.1 hx
    rw[e1,e2];exact((Np b).1 hb).2
   ·intro ha
    have hu:=h1 _ _ _ ha
    have u1:=hu.p0
    have u2:=hu.p1
    have u3:=hu.d0
    have u4:=hu.d1
    have u5:=hu.b b rfl
    obtain⟨P,rfl⟩:∃ P:Nat,p=(P:Int):=⟨p.toNat,by omega⟩
    obtain⟨D,rfl⟩:∃ D:Nat,d=(D:Int):=⟨d.toNat,by omega⟩
    classical
    have Np:∀ b,(Int.toNat ((kh (λb=>decide (A P D (some b))) 64:Nat):Int)).testBit b=true↔b<64/\A P D (some b):=λb=>by
     rw[aa,jf]
     simp
    exact⟨((P:Int),((D:Int),((kh (λb=>decide (A P D (some b))) 64:Nat):Int))),nH.2 ⟨P,D,by omega,by omega,h2 _ _ _ ha,rfl,rfl,pk _,Np⟩,rfl,rfl,(Np b).2 ⟨u5,ha⟩⟩
def gj(g:GrS)(l:List ItS):List ItS:=J3 (ClG g l)
theorem iO{g:GrS}(hg:Gs g){l:List ItS}(h:OkI l):Can (ClG g l) (gj g l):=J4 (λ_ _ _ ha=>ClG.inU hg h ha) (λ_ _ _ ha=>ha.P9)
theorem J5{A:Ato}{l:List ItS}(h:Can A l)(hU:∀ p d o,A p d o->InU 12 p d o):OkI l:=
 ⟨h.bd,λx hx=>by
  have:=hU _ _ _ ((h.at' x.1 x.2.1 none).1 ⟨x,hx,rfl,rfl⟩)
  exact⟨this.p0,this.p1,this.d0,this.d1⟩⟩
theorem rV{g:GrS}(hg:Gs g){l:List ItS}(h:OkI l):OkI (gj g l):=J5 (iO hg h) λ_ _ _ ha=>ClG.inU hg h ha
theorem lL{A:Ato}{l:List ItS}(h:Can A l)(hU:∀ p d o,A p d o->InU 12 p d o):l.length<=273:=by
 have:=Nc h hU
 omega
end
noncomputable section
theorem CB{a b:List ItS}(hl:a.length<=1000000):p20 N0 (a,(b,()))=some ((decide (a=b),()),()):=by
 unfold p20
 simp only[aL,cm,decide_eq_true_eq]
 by_cases hlen:(a.length:Int)=(b.length:Int)
 ·have U4:a.length=b.length:=by omega
  simp only[hlen,decide_true,aB,av,if_false]
  rw[<-hlen]
  refine bT (λj=>((),((j:Int),()))) (λj=>some ((decide (a.drop j=b.drop j),()),())) a.length (λj hj K hK=>?_) N0 0 (aH _) (by unfold N0;omega)
  rcases ap j a.length with h|h
  ·have c:(j:Int)<(a.length:Int):=by omega
   have hK:=hK h
   have hb:j<b.length:=by omega
   have hj1:IntKind.wrap .i64 ((j:Int)+1)=((j+1:Nat):Int):=cH h hl
   simp only[c,if_true,aX,aa,ah h,ah hb,hj1,db h,db hb]
   rw[hK]
   generalize a[j]=x
   generalize b[j]=y
   obtain⟨x1,x2,x3⟩:=x
   obtain⟨y1,y2,y3⟩:=y
   by_cases h1:x1=y1
   ·by_cases h2:x2=y2
    ·by_cases h3:x3=y3
     ·simp[h1,h2,h3]
     ·simp[h1,h2,h3]
    ·simp[h1,h2]
   ·simp[h1]
  ·have c:¬(j:Int)<(a.length:Int):=by omega
   rw[fk h,fk (by omega)]
   simp only[c,if_false,decide_true]
 ·have:¬a=b:=λe=>hlen (by rw[e])
  simp[hlen,this]
def mI(g:GrS)(s w:Int)(j:Nat):List ItS:=(List.range j).flatMap λk=>match g.2.2.1[k]? with
 |some pr=>if pr.1=s then [((k:Int),((0:Int),w))]else []
 |none=>[]
def CC(g:GrS)(x:ItS):List ItS:=match gg g x.1 x.2.1 with
 |some y=>if y.1=true then mI g y.2 (wG g x.1 x.2.1 x.2.2) g.2.2.1.length else []
 |none=>[]
def ki(g:GrS)(c:List ItS):List ItS:=c.flatMap (CC g)
theorem uW(g:GrS)(s w:Int)(j:Nat):mI g s w (j+1)=mI g s w j++(match g.2.2.1[j]? with
 |some pr=>if pr.1=s then [((j:Int),((0:Int),w))]else []
 |none=>[]):=by
 unfold mI
 rw[kR,iw]
 simp only[kP,qN,b9]
theorem rW(g:GrS)(s w:Int):∀ j,(mI g s w j).length<=j
 |0=>by simp[mI]
 |j+1=>by
  have:=rW g s w j
  rw[uW,ak]
  split
  ·split
   ·simp;omega
   ·simp;omega
  ·simp;omega
def AY{α:Type}(l m:List α):List α:=match m with
 |[]=>l
 |x::m=>l++x::m
theorem oM{α:Type}(l m:List α):AY l m=l++m:=by
 cases m
 ·exact(b9 l).symm
 ·rfl
theorem Gy{g:GrS}{s w:Int}{j:Nat}{y:ItS}:y∈mI g s w j↔∃ k pr,k<j/\g.2.2.1[k]?=some pr/\pr.1=s/\y=((k:Int),((0:Int),w)):=by
 unfold mI
 simp only[dU,cD]
 constructor
 ·rintro⟨k,hk,hy⟩
  cases hp:g.2.2.1[k]? with
  |none=>rw[hp]at hy;cases hy
  |some pr=>
   rw[hp]at hy
   simp only at hy
   split at hy
   ·rename_i e;exact⟨k,pr,hk,hp,e,aS.1 hy⟩
   ·cases hy
 ·rintro⟨k,pr,hk,hp,e,rfl⟩
  refine⟨k,hk,?_⟩
  rw[hp]
  simp[e]
theorem uX{g:GrS}{x y:ItS}:y∈CC g x↔∃ q,stG g x.1 x.2.1 q/\y=(q,((0:Int),wG g x.1 x.2.1 x.2.2)):=by
 unfold CC stG
 cases hn:gg g x.1 x.2.1 with
 |none=>
  constructor
  ·intro h;cases h
  ·rintro⟨q,⟨k,pr,_,_,h⟩,_⟩;cases h
 |some z=>
  simp only
  by_cases hz:z.1=true
  ·rw[if_pos hz,Gy]
   constructor
   ·rintro⟨k,pr,_,h1,h2,h3⟩
    refine⟨(k:Int),⟨k,pr,rfl,h1,?_⟩,h3⟩
    obtain⟨z1,z2⟩:=z
    simp only at hz h2
    rw[hz,h2]
   ·rintro⟨q,⟨k,pr,rfl,h1,h2⟩,h3⟩
    refine⟨k,pr,(bw.1 h1).1,h1,?_,h3⟩
    cases h2;rfl
  ·rw[if_neg hz]
   constructor
   ·intro h;cases h
   ·rintro⟨q,⟨k,pr,_,_,h⟩,_⟩
    cases h
    exact absurd rfl hz
theorem J6(g:GrS)(x:ItS):(CC g x).length<=g.2.2.1.length:=by
 unfold CC
 split
 ·split
  ·exact rW _ _ _ _
  ·simp
 ·simp
theorem uY{g:GrS}(hg:Gs g):∀ c:List ItS,(ki g c).length<=c.length*12
 |[]=>by simp[ki]
 |x::c=>by
  have h1:=uY hg c
  have h2:=J6 g x
  have h3:=hg.ps
  unfold ki at *
  rw[kP,ak,aO]
  omega
theorem Nq{g:GrS}{c:List ItS}{p d:Int}{o:Option Nat}:At (ki g c) p d o↔Stp (stG g) (fsG g) (nlG g) (At c) p d o:=by
 have hm:∀ y,y∈ki g c↔∃ x∈c,∃ q,stG g x.1 x.2.1 q/\y=(q,((0:Int),wG g x.1 x.2.1 x.2.2)):=λy=>by
  unfold ki
  rw[dU]
  constructor
  ·rintro⟨x,hx,h⟩;exact⟨x,hx,uX.1 h⟩
  ·rintro⟨x,hx,h⟩;exact⟨x,hx,uX.2 h⟩
 cases o with
 |none=>
  constructor
  ·rintro⟨y,hy,rfl,rfl⟩
   obtain⟨x,hx,q,h1,rfl⟩:=(hm y).1 hy
   exact⟨rfl,x.1,x.2.1,⟨x,hx,rfl,rfl⟩,h1⟩
  ·rintro⟨rfl,p',d',⟨x,hx,rfl,rfl⟩,h1⟩
   exact⟨_,(hm _).2 ⟨x,hx,p,h1,rfl⟩,rfl,rfl⟩
 |some b=>
  constructor
  ·rintro⟨y,hy,rfl,rfl,hb⟩
   obtain⟨x,hx,q,h1,rfl⟩:=(hm y).1 hy
   refine⟨rfl,x.1,x.2.1,h1,?_⟩
   rcases rU.1 hb with h|h
   ·exact .inl ⟨⟨x,hx,rfl,rfl⟩,h⟩
   ·exact .inr ⟨⟨x,hx,rfl,rfl,h.2⟩,h.1⟩
  ·rintro⟨rfl,p',d',h1,h|h⟩
   ·obtain⟨⟨x,hx,rfl,rfl⟩,hf⟩:=h
    exact⟨_,(hm _).2 ⟨x,hx,p,h1,rfl⟩,rfl,rfl,rU.2 (.inl hf)⟩
   ·obtain⟨⟨x,hx,rfl,rfl,hb⟩,hn⟩:=h
    exact⟨_,(hm _).2 ⟨x,hx,p,h1,rfl⟩,rfl,rfl,rU.2 (.inr ⟨hn,hb⟩)⟩
theorem Nr{g:GrS}{c:List ItS}(h:∀ x∈c,kH x):∀ y∈ki g c,kH y:=λy hy=>by
 unfold ki at hy
 obtain⟨x,hx,hy⟩:=dU.1 hy
 obtain⟨q,_,rfl⟩:=uX.1 hy
 exact No (h x hx)
set_option maxHeartbeats 2000000 in
theorem J7{g:GrS}(hg:Gs g){l:List ItS}(hl:OkI l)(hll:l.length<=100000):p23 N0 (g,(l,()))=some ((gj g l,()),()):=by
 have hps:=hg.ps
 unfold p23
 simp only[JN hg,P4 hg,aC,Cw hl.bd (by omega:l.length<=1000000)]
 simp only[aL,cm,decide_eq_true_eq]
 have Ei:=lK hl.bd
 have CD:=iO hg hl
 have Qa:∀ p d o,ClG g l p d o->InU 12 p d o:=λ_ _ _ ha=>ClG.inU hg hl ha
 refine aZ (λm z r=>∃ (c:List ItS),z=((),(c,()))/\Can (At c) c/\(∀ p d o,At l p d o->At c p d o)/\(∀ p d o,At c p d o->ClG g l p d o)/\m=ig (vF 12) (onU (At c))/\r=some ((gj g l,()),())) ?_ N0 (ig (vF 12) (onU (At (gf l)))) _ _ (by
  have:=jd (vF 12) (onU (At (gf l)))
  rw[JB]at this
  unfold N0;omega) ⟨gf l,rfl,⟨Ei.st,Ei.bd,λ_ _ _=>jG⟩,λp d o h=>(Ei.at' p d o).2 h,λp d o h=>.base ((Ei.at' p d o).1 h),rfl,rfl⟩
 rintro m z r ⟨c,rfl,hc,hlc,hcc,rfl,rfl⟩ K hK
 have hcl:c.length<=273:=lL hc λp d o h=>Qa _ _ _ (hcc _ _ _ h)
 simp only[bJ,bM]
 rw[if_pos (by omega),if_pos (by omega)]
 have hal:=uY hg c
 refine bT (λj=>((),(AY c (ki g (c.take j)),((j:Int),())))) (λ_=>some ((gj g l,()),())) c.length (λj hj L hL=>?_) N0 0 (aH _) (by unfold N0;omega)
 simp only[oM]at hL |-
 rcases ap j c.length with hjl|hjl
 ·have cj:(j:Int)<(c.length:Int):=by omega
  have hL:=hL hjl
  have hj1:IntKind.wrap .i64 ((j:Int)+1)=((j+1:Nat):Int):=cH hjl (by omega)
  have hx:=hc.bd _ (bp hjl)
  have UR:=uY hg (c.take j)
  rw[aK]at UR
  have hsn:ki g (c.take (j+1))=ki g (c.take j)++CC g c[j]:=by
   unfold ki
   rw[dB _ _ hjl,iw]
   simp
  rw[hsn,<-aM]at hL
  simp only[cj,if_true,aX,aa,ah hjl,hj1,Cz,aC]
  have hol:(c++ki g (c.take j)).length<=10000:=by rw[ak];omega
  generalize c++ki g (c.take j)=out at *
  generalize c[j]=x at *
  rw[<-hL]
  unfold CC
  cases hn:gg g x.1 x.2.1 with
  |none=>simp
  |some y=>
   cases hy:y.1
   ·simp[hy]
   ·obtain⟨n1,n2⟩:=Cx hn
    have n3:=oL hg x.1
    have hw2:IntKind.wrap .i64 (x.2.1+1)=((x.2.1.toNat+1:Nat):Int):=by rw[bC (by omega) (by omega)];omega
    simp only[aB,av,if_false,hy,J0,aC,hw2,if_true]
    rw[if_pos ⟨by omega,by omega,by omega⟩,uV]
    have e55:=P1 (n:=g.2.1.length) (f:=tE g.2.2.1 g.2.1.length) (F:=tF g.2.2.1 g.2.1.length) (λi=>JM i) (body:=sF g x.1 x.2.1) (λz hz=>AX hg x.1 z (jz hz)) (by unfold sF;rw[bA];unfold maxLen;omega) (look:=x.2.2) hx
    have US:p55 N0 (bsS g.2.1.length (tE g.2.2.1 g.2.1.length),(inN g.2.1.length (tF g.2.2.1 g.2.1.length),((eE g x.1).1.drop (x.2.1.toNat+1),(x.2.2,()))))=some ((wG g x.1 x.2.1 x.2.2,()),()):=e55
    rw[US]
    simp only[aC]
    generalize wG g x.1 x.2.1 x.2.2=w
    refine bT (λi=>((),(AY out (mI g y.2 w i),((i:Int),())))) (λ_=>L ((),(out++mI g y.2 w g.2.2.1.length,(((j+1:Nat):Int),())))) g.2.2.1.length (λi hi M hM=>?_) N0 0 (aH _) (by unfold N0;omega)
    simp only[oM]at hM |-
    rcases ap i g.2.2.1.length with hil|hil
    ·have ci:(i:Int)<(g.2.2.1.length:Int):=by omega
     have hM:=hM hil
     have hi1:IntKind.wrap .i64 ((i:Int)+1)=((i+1:Nat):Int):=cH hil (by omega)
     have hnl:=rW g y.2 w i
     rw[uW,ah hil,<-aM]at hM
     simp only[ci,if_true,aX,aa,ah hil,hi1]
     have Vh:(out++mI g y.2 w i).length<=20000:=by rw[ak];omega
     generalize out++mI g y.2 w i=Vi at *
     rw[<-hM]
     by_cases he:g.2.2.1[i].1=y.2
     ·simp only[he,if_true,aO,bJ]
      rw[if_pos (by omega),if_pos (by omega)]
     ·simp only[he,if_false,b9]
    ·have ci:¬(i:Int)<(g.2.2.1.length:Int):=by omega
     have e:i=g.2.2.1.length:=by omega
     subst e
     simp only[ci,if_false]
 ·have cj:¬(j:Int)<(c.length:Int):=by omega
  rw[bZ hjl]
  have hbd:∀ x∈c++ki g c,kH x:=λx hx=>by
   rcases ar.1 hx with hx|hx
   ·exact hc.bd x hx
   ·exact Nr hc.bd x hx
  have hcn:=lK hbd
  have hat:∀ p d o,At (gf (c++ki g c)) p d o↔At c p d o\/Stp (stG g) (fsG g) (nlG g) (At c) p d o:=λp d o=>by
   rw[hcn.at',jj,Nq]
  have Qb:∀ p d o,At (gf (c++ki g c)) p d o->ClG g l p d o:=λp d o h=>by
   rcases(hat p d o).1 h with h|h
   ·exact hcc _ _ _ h
   ·exact Cl.stp (h.mono hcc)
  have hnl:(gf (c++ki g c)).length<=273:=lL (A:=At (gf (c++ki g c))) ⟨hcn.st,hcn.bd,λ_ _ _=>jG⟩ λp d o h=>Qa _ _ _ (Qb _ _ _ h)
  have e53:=Cw hbd (by rw[ak];omega)
  simp only[cj,if_false,e53,aC,CB (by omega:(gf (c++ki g c)).length<=1000000),decide_eq_true_eq]
  by_cases he:gf (c++ki g c)=c
  ·rw[if_pos he]
   have J8:∀ p d o,At c p d o↔ClG g l p d o:=λp d o=>⟨hcc p d o,λh=>Cl.least hlc (λp d o hs=>by
    rw[<-he];exact(hat p d o).2 (.inr hs)) h⟩
   rw[(hc.congr J8).Cp CD]
  ·rw[if_neg he]
   refine hK (ig (vF 12) (onU (At (gf (c++ki g c))))) _ _ ?_ ⟨_,rfl,⟨hcn.st,hcn.bd,λ_ _ _=>jG⟩,λp d o h=>(hat p d o).2 (.inl (hlc _ _ _ h)),Qb,rfl,rfl⟩
   exact JC hc ⟨hcn.st,hcn.bd,λ_ _ _=>jG⟩ (λp d o h=>(hat p d o).2 (.inl h)) (λp d o h=>Qa _ _ _ (Qb _ _ _ h)) (λe=>he e.symm)
end
noncomputable section
def nI(g:GrS)(s:Int)(n:Nat):Bool:=match g.2.2.1[n]? with
 |some pr=>decide (pr.1=s)
 |none=>false
def T1(g:GrS)(s:Int)(T:Nat->Bool)(j:Nat):Nat->Bool:=λn=>T n||(decide (n<j)&&nI g s n)
def L1(g:GrS)(s w:Int)(L:Nat->Int)(j:Nat):Nat->Int:=λn=>if(decide (n<j)&&nI g s n)=true then orI (L n) w else L n
def iP(g:GrS)(s w:Int)(T:Nat->Bool)(L:Nat->Int)(n:Nat):Bool:=nI g s n&&!(T n&&decide (orI (L n) w=L n))
def N1(g:GrS)(s w:Int)(T:Nat->Bool)(L:Nat->Int)(j:Nat):List ItS:=(List.range j).flatMap λn=>if iP g s w T L n=true then [((n:Int),((0:Int),orI (L n) w))]else []
variable {g:GrS} {s w:Int} {T:Nat->Bool} {L:Nat->Int}
theorem ym(j:Nat):N1 g s w T L (j+1)=N1 g s w T L j++(if iP g s w T L j=true then [((j:Int),((0:Int),orI (L j) w))]else []):=by
 unfold N1
 rw[kR,iw]
 simp
theorem Qc(j:Nat):(N1 g s w T L j).length<=j:=by
 induction j with
 |zero=>simp[N1]
 |succ j ih=>
  rw[ym,ak]
  split
  ·simp;omega
  ·simp;omega
theorem RT:T1 g s T 0=T:=by funext n;simp[T1]
theorem RU:L1 g s w L 0=L:=by funext n;simp[L1]
theorem yn{j:Nat}(h:iP g s w T L j=false):T1 g s T (j+1)=T1 g s T j:=by
 funext n
 unfold T1
 by_cases e:n=j
 ·subst e
  unfold iP at h
  cases hh:nI g s n
  ·simp
  ·rw[hh]at h
   cases ht:T n
   ·rw[ht]at h;cases h
   ·simp
 ·by_cases h2:n<j
  ·simp[h2,fq h2]
  ·have:¬n<j+1:=by omega
   simp[h2,this]
theorem yo{j:Nat}(h:iP g s w T L j=false):L1 g s w L (j+1)=L1 g s w L j:=by
 funext n
 unfold L1
 by_cases e:n=j
 ·subst e
  unfold iP at h
  cases hh:nI g s n
  ·simp
  ·rw[hh]at h
   have:orI (L n) w=L n:=(by simpa using h:T n=true/\orI (L n) w=L n).2
   simp_all
 ·by_cases h2:n<j
  ·simp[h2,fq h2]
  ·have:¬n<j+1:=by omega
   simp[h2,this]
theorem CE{j:Nat}(h:iP g s w T L j=true):T1 g s T (j+1)=cZ (T1 g s T j) j true:=by
 funext n
 unfold T1 cZ
 by_cases e:n=j
 ·subst e
  unfold iP at h
  rw[ag]at h
  simp[h.1]
 ·rw[if_neg e]
  by_cases h2:n<j
  ·simp[h2,fq h2]
  ·have:¬n<j+1:=by omega
   simp[h2,this]
theorem CF{j:Nat}(h:iP g s w T L j=true):L1 g s w L (j+1)=cZ (L1 g s w L j) j (orI (L j) w):=by
 funext n
 unfold L1 cZ
 by_cases e:n=j
 ·subst e
  unfold iP at h
  rw[ag]at h
  simp[h.1]
 ·rw[if_neg e]
  by_cases h2:n<j
  ·simp[h2,fq h2]
  ·have:¬n<j+1:=by omega
   simp[h2,this]
theorem NW(j:Nat):T1 g s T j j=T j:=by simp[T1]
theorem J9(j:Nat):L1 g s w L j j=L j:=by simp[L1]
theorem UT(hU:j8 L)(hw:U64 w)(j:Nat):j8 (L1 g s w L j):=λn=>by
 unfold L1;split
 ·exact mH (hU n) hw
 ·exact hU n
set_option maxHeartbeats 1000000 in
theorem Qd(hg:Gs g)(hU:j8 L)(hw:U64 w)(t:List Bool×List Int)(o:List ItS)(ho:o.length<=200000):
 p76 N0 ((g,(t,(bsS g.2.2.1.length T,(inN g.2.2.1.length L,o)))),(s,(w,())))=
  some ((),(((g,(t,(bsS g.2.2.1.length (T1 g s T g.2.2.1.length),(inN g.2.2.1.length (L1 g s w L g.2.2.1.length),o++N1 g s w T L g.2.2.1.length)))),()))):=by
 have hps:=hg.ps
 unfold p76
 simp only[aL,cm,decide_eq_true_eq]
 refine(congrArg (λz=>aF _ N0 z) (?_:_=(((g,(t,(bsS g.2.2.1.length (T1 g s T 0),(inN g.2.2.1.length (L1 g s w L 0),AY o (N1 g s w T L 0))))),()),(((0:Nat):Int),())))).trans
  ((bT (λj=>(((g,(t,(bsS g.2.2.1.length (T1 g s T j),(inN g.2.2.1.length (L1 g s w L j),AY o (N1 g s w T L j))))),()),((j:Int),()))) (λ_=>some ((),(((g,(t,(bsS g.2.2.1.length (T1 g s T g.2.2.1.length),(inN g.2.2.1.length (L1 g s w L g.2.2.1.length),AY o (N1 g s w T L g.2.2.1.length))))),())))) g.2.2.1.length (λj hj K hK=>?_) N0 0 (aH _) (by unfold N0;omega)).trans (by rw[oM]))
 ·rw[RT,RU];rfl
 ·simp only[oM]at hK |-
  rcases ap j g.2.2.1.length with h|h
  ·have c:(j:Int)<(g.2.2.1.length:Int):=by omega
   have hK:=hK h
   have hj1:IntKind.wrap .i64 ((j:Int)+1)=((j+1:Nat):Int):=cH h (by omega)
   have hh:nI g s j=decide (g.2.2.1[j].1=s):=by unfold nI;rw[ah h]
   have hnl:=Qc (g:=g) (s:=s) (w:=w) (T:=T) (L:=L) j
   simp only[c,if_true,aX,aa,ah h,hj1]
   rw[ym]at hK
   by_cases he:g.2.2.1[j].1=s
   ·have hh':nI g s j=true:=by rw[hh];simp[he]
    simp only[he,decide_true,aB,av,if_false,jt _ h,kw _ h,NW,J9,mz (hU j) hw]
    cases hT:T j
    ·have hn:iP g s w T L j=true:=by unfold iP;rw[hh',hT];rfl
     rw[if_pos hn,CE hn,CF hn,<-aM]at hK
     simp only[av,if_false,ta,oJ,aO,bJ,ak]
     rw[kw _ h,show cZ (L1 g s w L j) j (orI (L j) w) j=orI (L j) w from if_pos rfl]
     dsimp only
     rw[if_pos (by omega),if_pos (by omega)]
     exact hK
    ·simp only[if_true,decide_eq_true_eq]
     by_cases hq:orI (L j) w=L j
     ·have hn:iP g s w T L j=false:=by unfold iP;rw[hh',hT];simp[hq]
      rw[if_neg (by rw[hn];exact ix),yn hn,yo hn,b9]at hK
      simp only[hq,if_true]
      exact hK
     ·have hn:iP g s w T L j=true:=by unfold iP;rw[hh',hT];simp[hq]
      rw[if_pos hn,CE hn,CF hn,<-aM]at hK
      simp only[hq,if_false,ta,oJ,aO,bJ,ak]
      rw[kw _ h,show cZ (L1 g s w L j) j (orI (L j) w) j=orI (L j) w from if_pos rfl]
      dsimp only
      rw[if_pos (by omega),if_pos (by omega)]
      exact hK
   ·have hh':nI g s j=false:=by rw[hh];simp[he]
    have hn:iP g s w T L j=false:=by unfold iP;rw[hh'];rfl
    rw[if_neg (by rw[hn];exact ix),yn hn,yo hn,b9]at hK
    simp only[he,decide_false,aJ,if_true]
    exact hK
  ·have c:¬(j:Int)<(g.2.2.1.length:Int):=by omega
   have e:j=g.2.2.1.length:=by omega
   subst e
   simp only[c,if_false]
end
noncomputable section
theorem Ka{l:List ItS}(hl:l.length<=1000000):p74 N0 (l,())=some ((l,()),()):=by
 unfold p74
 simp only[bJ,bM,cm]
 unfold Lb
 cases l with
 |nil=>exact Hl _
 |cons x l=>
  simp only[List.isEmpty_cons,av,if_false,cond_false]
  rw[if_pos (by omega),if_pos (by omega)]
variable {g:GrS} {s w:Int} {T:Nat->Bool} {L:Nat->Int}
def nJ(k:Nat)(T:Nat->Bool)(L:Nat->Int):Nat:=nG k L+ig (List.range k) λi=>T i=true
theorem AZ(k:Nat)(T:Nat->Bool)(L:Nat->Int):nJ k T L<=k*65:=by
 have h1:=jd (Cs k) λu=>(L u.1).toNat.testBit u.2=true
 have h2:=jd (List.range k) λi=>T i=true
 rw[uS]at h1
 rw[kN]at h2
 unfold nJ nG
 omega
theorem Ej(hU:j8 L)(hw:U64 w):∀ j,j<=g.2.2.1.length->(N1 g s w T L j).length+nJ g.2.2.1.length (T1 g s T j) (L1 g s w L j)<=nJ g.2.2.1.length T L
 |0,_=>by rw[RT,RU];simp[N1]
 |j+1,hj=>by
  have ih:=Ej hU hw j (by omega)
  rw[ym,ak]
  cases hn:iP g s w T L j
  ·rw[if_neg (by simp),yn hn,yo hn]
   simpa using ih
  ·rw[if_pos rfl,CE hn,CF hn]
   have hle:leF (L1 g s w L j) (cZ (L1 g s w L j) j (orI (L j) w)):=λi b hb=>by
    unfold cZ
    split
    ·rename_i e
     subst e
     rw[J9]at hb
     rw[dO,hb,dV]
    ·exact hb
   have RW:∀ i,T1 g s T j i=true->cZ (T1 g s T j) j true i=true:=λi hi=>by
    unfold cZ
    split
    ·rfl
    ·exact hi
   have hlt:nJ g.2.2.1.length (cZ (T1 g s T j) j true) (cZ (L1 g s w L j) j (orI (L j) w))<nJ g.2.2.1.length (T1 g s T j) (L1 g s w L j):=by
    have h1:nG g.2.2.1.length (cZ (L1 g s w L j) j (orI (L j) w))<=nG g.2.2.1.length (L1 g s w L j):=qi λu _ hu=>hle _ _ hu
    have h2:ig (List.range g.2.2.1.length) (λi=>cZ (T1 g s T j) j true i=true)<=ig (List.range g.2.2.1.length) (λi=>T1 g s T j i=true):=qi λu _ hu=>RW _ hu
    unfold nJ
    cases hT:T j
    ·have:=oH (U:=List.range g.2.2.1.length) (P:=λi=>T1 g s T j i=true) (Q:=λi=>cZ (T1 g s T j) j true i=true) (λu _ hu=>RW _ hu) (cD.2 (by omega:j<g.2.2.1.length)) (by show ¬T1 g s T j j=true;rw[NW,hT];exact ix) (by show cZ (T1 g s T j) j true j=true;unfold cZ;rw[if_pos rfl])
     omega
    ·have hne:orI (L j) w≠L j:=by
      unfold iP at hn
      rw[hT]at hn
      intro e
      simp[e]at hn
     obtain⟨b,hb,hb1,hb2⟩:=JP hw (hU j) (by rw[ql];exact hne)
     have:=uT (n:=g.2.2.1.length) hle (i:=j) (b:=b) (by omega) hb (by rw[J9];exact hb1) (by unfold cZ;rw[if_pos rfl,ql];exact hb2)
     omega
   simp only[aO,bJ]
   omega
theorem Kb{j:Nat}{y:ItS}:y∈N1 g s w T L j↔∃ n,n<j/\iP g s w T L n=true/\y=((n:Int),((0:Int),orI (L n) w)):=by
 unfold N1
 simp only[dU,cD]
 constructor
 ·rintro⟨n,hn,hy⟩
  split at hy
  ·rename_i h;exact⟨n,hn,h,aS.1 hy⟩
  ·cases hy
 ·rintro⟨n,hn,h,rfl⟩
  exact⟨n,hn,by rw[if_pos h];exact aS.2 rfl⟩
def qn(g:GrS)(T:Nat->Bool)(L:Nat->Int)(x:ItS):Prop:=∀ q,stG g x.1 x.2.1 q->T q.toNat=true/\∀ b,(wG g x.1 x.2.1 x.2.2).toNat.testBit b=true->(L q.toNat).toNat.testBit b=true
theorem qn.mono{T':Nat->Bool}{L':Nat->Int}(hT:∀ i,T i=true->T' i=true)(hL:leF L L'){x:ItS}(h:qn g T L x):qn g T' L' x:=λq hq=>⟨hT _ (h q hq).1,λb hb=>hL _ _ ((h q hq).2 b hb)⟩
theorem Ek{j:Nat}(i:Nat)(h:T i=true):T1 g s T j i=true:=by unfold T1;rw[h,dV]
theorem El{j:Nat}:leF L (L1 g s w L j):=λi b hb=>by
 unfold L1;split
 ·rw[dO,hb,dV]
 ·exact hb
theorem Em{n:Nat}:nI g s n=true↔∃ pr,g.2.2.1[n]?=some pr/\pr.1=s:=by
 unfold nI
 cases hp:g.2.2.1[n]? with
 |none=>simp
 |some pr=>simp
structure yp(g:GrS)(l:List ItS)(T:Nat->Bool)(L:Nat->Int)(o:List ItS):Prop where
 U:j8 L
 t:∀ n:Nat,T n=true->ClG g l (n:Int) 0 none
 b:∀ (n:Nat) b,(L n).toNat.testBit b=true->ClG g l (n:Int) 0 (some b)
 op:∀ x∈o,kH x/\ClG g l x.1 x.2.1 none/\∀ b,x.2.2.toNat.testBit b=true->ClG g l x.1 x.2.1 (some b)
 p1:∀ x∈l,x∈o\/qn g T L x
 p2:∀ n:Nat,T n=true->((n:Int),((0:Int),L n))∈o\/qn g T L ((n:Int),((0:Int),L n))
theorem yp.skip{l o:List ItS}{x:ItS}(h:yp g l T L (x::o))(hd:qn g T L x):yp g l T L o where
 U:=h.U
 t:=h.t
 b:=h.b
 op:=λy hy=>h.op y (bK _ hy)
 p1:=λy hy=>by
  rcases h.p1 y hy with h1|h1
  ·rcases aA.1 h1 with rfl|h1
   ·exact .inr hd
   ·exact .inl h1
  ·exact .inr h1
 p2:=λn hn=>by
  rcases h.p2 n hn with h1|h1
  ·rcases aA.1 h1 with h1|h1
   ·exact .inr (h1 ▸ hd)
   ·exact .inl h1
  ·exact .inr h1
theorem yp.step(hg:Gs g){l o:List ItS}{x:ItS}(h:yp g l T L (x::o)){s:Int}(hs:gg g x.1 x.2.1=some (true,s)):
 yp g l (T1 g s T g.2.2.1.length) (L1 g s (wG g x.1 x.2.1 x.2.2) L g.2.2.1.length) (o++N1 g s (wG g x.1 x.2.1 x.2.2) T L g.2.2.1.length):=by
 obtain⟨hxb,hx0,hxs⟩:=h.op x bE
 have hw:U64 (wG g x.1 x.2.1 x.2.2):=No hxb
 have hst:∀ n,nI g s n=true->stG g x.1 x.2.1 (n:Int):=λn hn=>by
  obtain⟨pr,h1,h2⟩:=Em.1 hn
  exact⟨n,pr,rfl,h1,by rw[h2];exact hs⟩
 have hcw:∀ n b,nI g s n=true->(wG g x.1 x.2.1 x.2.2).toNat.testBit b=true->ClG g l (n:Int) 0 (some b):=λn b hn hb=>by
  rcases rU.1 hb with h1|h1
  ·exact .first hx0 (hst n hn) h1
  ·exact .look (hxs b h1.2) (hst n hn) h1.1
 have hdx:qn g (T1 g s T g.2.2.1.length) (L1 g s (wG g x.1 x.2.1 x.2.2) L g.2.2.1.length) x:=by
  rintro q ⟨k,pr,rfl,h1,h2⟩
  have hk:=(bw.1 h1).1
  have CG:nI g s k=true:=Em.2 ⟨pr,h1,by rw[hs]at h2;cases h2;rfl⟩
  rw[aa]
  refine⟨?_,λb hb=>?_⟩
  ·unfold T1;rw[CG];simp[hk]
  ·unfold L1
   rw[if_pos (by rw[CG];simp[hk]),dO,hb,fv]
 refine⟨UT h.U hw _,λn hn=>?_,λn b hb=>?_,λy hy=>?_,λy hy=>?_,λn hn=>?_⟩
 ·unfold T1 at hn
  rw[aG,ag]at hn
  rcases hn with hn|hn
  ·exact h.t n hn
  ·exact .there hx0 (hst n hn.2)
 ·unfold L1 at hb
  split at hb
  ·rename_i hc
   rw[ag]at hc
   rw[dO,aG]at hb
   rcases hb with hb|hb
   ·exact h.b n b hb
   ·exact hcw n b hc.2 hb
  ·exact h.b n b hb
 ·rcases ar.1 hy with hy|hy
  ·exact h.op y (bK _ hy)
  ·obtain⟨n,hn,sI,rfl⟩:=Kb.1 hy
   have CG:nI g s n=true:=by
    unfold iP at sI
    rw[ag]at sI
    exact sI.1
   refine⟨mH (h.U n) hw,.there hx0 (hst n CG),λb hb=>?_⟩
   rw[dO,aG]at hb
   rcases hb with hb|hb
   ·exact h.b n b hb
   ·exact hcw n b CG hb
 ·rcases h.p1 y hy with h1|h1
  ·rcases aA.1 h1 with rfl|h1
   ·exact .inr hdx
   ·exact .inl (ar.2 (.inl h1))
  ·exact .inr (h1.mono (λi=>Ek i) El)
 ·by_cases hch:iP g s (wG g x.1 x.2.1 x.2.2) T L n=true/\n<g.2.2.1.length
  ·left
   refine ar.2 (.inr (Kb.2 ⟨n,hch.2,hch.1,?_⟩))
   have CG:nI g s n=true:=by
    have:=hch.1
    unfold iP at this
    rw[ag]at this
    exact this.1
   unfold L1
   rw[if_pos (by rw[CG];simp[hch.2])]
  ·have NX:T n=true/\L1 g s (wG g x.1 x.2.1 x.2.2) L g.2.2.1.length n=L n:=by
    unfold T1 at hn
    unfold L1
    by_cases hk:n<g.2.2.1.length
    ·have hnb:iP g s (wG g x.1 x.2.1 x.2.2) T L n=false:=by
      cases hq:iP g s (wG g x.1 x.2.1 x.2.2) T L n
      ·rfl
      ·exact absurd ⟨hq,hk⟩ hch
     unfold iP at hnb
     cases hh:nI g s n
     ·rw[hh]at hn
      simp at hn
      exact⟨hn,by simp⟩
     ·rw[hh]at hnb
      simp at hnb
      exact⟨hnb.1,by simp[hk,hnb.2]⟩
    ·simp[hk]at hn
     exact⟨hn,by simp[hk]⟩
   rw[NX.2]
   rcases h.p2 n NX.1 with h1|h1
   ·rcases aA.1 h1 with h1|h1
    ·exact .inr (h1 ▸ hdx)
    ·exact .inl (ar.2 (.inl h1))
   ·exact .inr (h1.mono (λi=>Ek i) El)
def gB(T:Nat->Bool)(L:Nat->Int)(j:Nat):List ItS:=(List.range j).flatMap λn=>if T n=true then [((n:Int),((0:Int),L n))]else []
theorem sG(j:Nat):gB T L (j+1)=gB T L j++(if T j=true then [((j:Int),((0:Int),L j))]else []):=by
 unfold gB
 rw[kR,iw]
 simp
theorem uZ(j:Nat):(gB T L j).length<=j:=by
 induction j with
 |zero=>simp[gB]
 |succ j ih=>
  rw[sG,ak]
  split
  ·simp;omega
  ·simp;omega
theorem j9{j:Nat}{y:ItS}:y∈gB T L j↔∃ n,n<j/\T n=true/\y=((n:Int),((0:Int),L n)):=by
 unfold gB
 simp only[dU,cD]
 constructor
 ·rintro⟨n,hn,hy⟩
  split at hy
  ·rename_i h;exact⟨n,hn,h,aS.1 hy⟩
  ·cases hy
 ·rintro⟨n,hn,h,rfl⟩
  exact⟨n,hn,by rw[if_pos h];exact aS.2 rfl⟩
theorem yp.full{l:List ItS}(h:yp g l T L []){p d:Int}{o:Option Nat}:At (l++gB T L g.2.2.1.length) p d o↔ClG g l p d o:=by
 rw[jj]
 have hd:∀ x∈l++gB T L g.2.2.1.length,qn g T L x:=λx hx=>by
  rcases ar.1 hx with hx|hx
  ·exact(h.p1 x hx).resolve_left (λh=>by cases h)
  ·obtain⟨n,_,hn,rfl⟩:=j9.1 hx
   exact(h.p2 n hn).resolve_left (λh=>by cases h)
 constructor
 ·rintro(ha|ha)
  ·exact .base ha
  ·cases o with
   |none=>
    obtain⟨x,hx,rfl,rfl⟩:=ha
    obtain⟨n,_,hn,rfl⟩:=j9.1 hx
    exact h.t n hn
   |some b=>
    obtain⟨x,hx,rfl,rfl,hb⟩:=ha
    obtain⟨n,_,hn,rfl⟩:=j9.1 hx
    exact h.b n b hb
 ·intro ha
  rw[<-jj]
  refine Cl.least (A:=At (l++gB T L g.2.2.1.length)) (λp d o hb=>jj.2 (.inl hb)) (λp d o hs=>?_) ha
  obtain⟨rfl,hs⟩:=hs
  have key:∀ x∈l++gB T L g.2.2.1.length,stG g x.1 x.2.1 p->∃ n:Nat,p=(n:Int)/\((n:Int),((0:Int),L n))∈gB T L g.2.2.1.length/\∀ b,(wG g x.1 x.2.1 x.2.2).toNat.testBit b=true->(L n).toNat.testBit b=true:=λx hx hst=>by
   obtain⟨h1,h2⟩:=hd x hx p hst
   obtain⟨k,pr,rfl,h3,_⟩:=hst
   rw[aa]at h1 h2
   exact⟨k,rfl,j9.2 ⟨k,(bw.1 h3).1,h1,rfl⟩,h2⟩
  cases o with
  |none=>
   obtain⟨p',d',⟨x,hx,rfl,rfl⟩,hst⟩:=hs
   obtain⟨n,rfl,hm,_⟩:=key x hx hst
   exact⟨_,ar.2 (.inr hm),rfl,rfl⟩
  |some b=>
   obtain⟨p',d',hst,⟨⟨x,hx,rfl,rfl⟩,hf⟩|⟨⟨x,hx,rfl,rfl,hb⟩,hn⟩⟩:=hs
   ·obtain⟨n,rfl,hm,hw⟩:=key x hx hst
    exact⟨_,ar.2 (.inr hm),rfl,rfl,hw b (rU.2 (.inl hf))⟩
   ·obtain⟨n,rfl,hm,hw⟩:=key x hx hst
    exact⟨_,ar.2 (.inr hm),rfl,rfl,hw b (rU.2 (.inr ⟨hn,hb⟩))⟩
end
noncomputable section
theorem yq{α:Type}(x:α)(l:List α):cz (x::l) 1 (((x::l).length:Nat):Int)=l:=by simp[cz]
set_option maxHeartbeats 2000000 in
theorem Kc{g:GrS}(hg:Gs g){l:List ItS}(hl:OkI l)(hll:l.length<=100000):
 p47 N0 (g,((bsS g.2.1.length (tE g.2.2.1 g.2.1.length),inN g.2.1.length (tF g.2.2.1 g.2.1.length)),(l,())))=some ((gj g l,()),()):=by
 have hps:=hg.ps
 have CD:=iO hg hl
 obtain⟨k,hk⟩:∃ k,k=g.2.2.1.length:=⟨_,rfl⟩
 unfold p47
 simp only[aL]
 simp only[cm,decide_eq_true_eq]
 simp only[<-hk,yj,qj,aa]
 rw[<-hk]at hps
 rw[if_pos ⟨by omega,by omega⟩,if_pos (by omega),if_pos ⟨by omega,by omega⟩,if_pos (by omega)]
 rw[ae (Ka (by omega:l.length<=1000000))]
 simp only
 refine aZ (λm z r=>∃ (T:Nat->Bool) (L:Nat->Int) (o:List ItS),z=(((g,((bsS g.2.1.length (tE g.2.2.1 g.2.1.length),inN g.2.1.length (tF g.2.2.1 g.2.1.length)),(bsS k T,(inN k L,o)))),()),())/\yp g l T L o/\m=o.length+nJ k T L/\m<=101000/\r=some ((gj g l,()),())) ?_ N0 (l.length+nJ k (λ_=>false) (λ_=>0)) _ _ (by
  have:=AZ k (λ_=>false) (λ_=>0)
  unfold N0;omega) ⟨λ_=>false,λ_=>0,l,rfl,⟨λ_=>AN,(λn h=>by cases h),(λn b h=>by simp at h),λx hx=>⟨hl.bd x hx,.base ⟨x,hx,rfl,rfl⟩,λb hb=>.base ⟨x,hx,rfl,rfl,hb⟩⟩,λx hx=>.inl hx,(λn h=>by cases h)⟩,rfl,by
  have:=AZ k (λ_=>false) (λ_=>0)
  omega,rfl⟩
 rintro m z r ⟨T,L,o,rfl,hI,rfl,hm,rfl⟩ K hK
 cases o with
 |cons x o=>
  have c:(0:Int)<(((x::o).length:Nat):Int):=by rw[aO];omega
  have c2:(0:Int)<=1/\(1:Int)<=(((x::o).length:Nat):Int)/\True:=⟨by omega,by rw[aO];omega,trivial⟩
  have hlen:(x::o).length=o.length+1:=rfl
  obtain⟨hxb,_,_⟩:=hI.op x bE
  simp only[c,if_true,jF,Int.toNat_zero,gD,Cy,aC]
  rw[if_pos c2]
  have NY:qn g T L x->K (((g,((bsS g.2.1.length (tE g.2.2.1 g.2.1.length),inN g.2.1.length (tF g.2.2.1 g.2.1.length)),(bsS k T,(inN k L,o)))),()),())=some ((gj g l,()),()):=λhd=>
   hK (o.length+nJ k T L) _ _ (by omega) ⟨T,L,o,rfl,hI.skip hd,rfl,by omega,rfl⟩
  cases hn:gg g x.1 x.2.1 with
  |none=>
   simp only[av,if_false,yq]
   exact NY λq hq=>by
    obtain⟨_,_,_,_,h⟩:=hq
    rw[hn]at h;cases h
  |some y=>
   obtain⟨y1,y2⟩:=y
   cases y1
   ·simp only[if_true,av,if_false,yq]
    exact NY λq hq=>by
     obtain⟨_,_,_,_,h⟩:=hq
     rw[hn]at h;cases h
   ·have n3:=oL hg x.1
    have e77:p77 N0 ((bsS g.2.1.length (tE g.2.2.1 g.2.1.length),inN g.2.1.length (tF g.2.2.1 g.2.1.length)),(sF g x.1 x.2.1,(x.2.2,())))=some ((wG g x.1 x.2.1 x.2.2,()),()):=
     P0 (λi=>JM i) (λz hz=>AX hg x.1 z (jz hz)) (by show(List.drop _ _).length<=_;rw[bA];unfold maxLen;omega) hxb
    have e76:=Qd (g:=g) (s:=y2) (T:=T) (L:=L) hg hI.U (No (g:=g) (p:=x.1) (d:=x.2.1) hxb) (bsS g.2.1.length (tE g.2.2.1 g.2.1.length),inN g.2.1.length (tF g.2.2.1 g.2.1.length)) o (by omega)
    rw[<-hk]at e76
    simp only[if_true,yq,P8 hg hn,aC,e77]
    rw[e76]
    simp only[aC]
    have RX:=Ej (g:=g) (s:=y2) (T:=T) (L:=L) hI.U (No (g:=g) (p:=x.1) (d:=x.2.1) hxb) g.2.2.1.length (au _)
    have sE:=hI.step hg hn
    rw[<-hk]at RX sE
    exact hK (o.length+(N1 g y2 (wG g x.1 x.2.1 x.2.2) T L k).length+nJ k (T1 g y2 T k) (L1 g y2 (wG g x.1 x.2.1 x.2.2) L k)) _ _ (by omega) ⟨_,_,_,rfl,sE,by rw[ak],by omega,rfl⟩
 |nil=>
  simp only[bJ,show ¬(0:Int)<((0:Nat):Int) by omega,if_false,oI]
  rw[ae (Ka (by omega:l.length<=1000000))]
  simp only
  have hth:=uZ (T:=T) (L:=L) k
  refine bT (λj=>((),(AY l (gB T L j),((j:Int),())))) (λ_=>some ((gj g l,()),())) k (λj hj M hM=>?_) N0 0 (aH _) (by unfold N0;omega)
  simp only[oM]at hM |-
  rcases ap j k with hjk|hjk
  ·have cj:(j:Int)<(k:Int):=by omega
   have hM:=hM hjk
   have hj1:IntKind.wrap .i64 ((j:Int)+1)=((j+1:Nat):Int):=cH hjk (by omega)
   have Vj:=uZ (T:=T) (L:=L) j
   rw[sG,<-aM]at hM
   simp only[cj,if_true,aX,aa,jt _ hjk,kw _ hjk,hj1]
   cases hT:T j
   ·rw[hT]at hM
    simpa using hM
   ·rw[hT]at hM
    simp only[if_true,ak,aO,bJ]at hM |-
    rw[if_pos (by omega),if_pos (by omega)]
    exact hM
  ·have cj:¬(j:Int)<(k:Int):=by omega
   have e:j=k:=by omega
   subst e
   simp only[cj,if_false]
   have hbd:∀ x∈l++gB T L j,kH x:=λx hx=>by
    rcases ar.1 hx with hx|hx
    ·exact hl.bd x hx
    ·obtain⟨n,_,_,rfl⟩:=j9.1 hx
     exact hI.U n
   rw[JW hbd (by rw[ak];omega)]
   simp only[aC]
   have J8:∀ p d o,At (l++gB T L j) p d o↔ClG g l p d o:=λp d o=>by
    rw[hk];exact hI.full
   rw[((lK hbd).congr J8).Cp CD]
def mC(g:GrS):List ItS:=[((g.2.2.1.length:Int),((0:Int),vG 63))]
theorem Qe(g:GrS):p48 N0 (g,())=some ((mC g,()),()):=by
 unfold p48
 simp only[JH 63 (by omega) (by omega),aC]
 rfl
theorem Qf(g:GrS):p24 N0 (g,())=some ((mC g,()),()):=by
 unfold p24
 simp only[JI,aC]
 rfl
theorem rX{g:GrS}(hg:Gs g):OkI (mC g):=by
 have:=hg.ps
 refine⟨λx hx=>?_,λx hx=>?_⟩
 ·rw[aS.1 hx];exact uO 63
 ·rw[aS.1 hx]
  exact⟨by show(0:Int)<=(g.2.2.1.length:Int);omega,by show(g.2.2.1.length:Int)<=12;omega,by show(0:Int)<=0;omega,by show(0:Int)<=20;omega⟩
def goX(g:GrS)(s:SyS)(x:ItS):List ItS:=if gg g x.1 x.2.1=some s then [(x.1,(x.2.1+1,x.2.2))]else []
def goL(g:GrS)(s:SyS)(l:List ItS):List ItS:=l.flatMap (goX g s)
theorem oN(g:GrS)(s:SyS):∀ l,(goL g s l).length<=l.length
 |[]=>by simp[goL]
 |x::l=>by
  have:=oN g s l
  unfold goL at *
  rw[kP,ak,aO]
  have:(goX g s x).length<=1:=by unfold goX;split <;> simp
  omega
theorem En{g:GrS}{s:SyS}{l:List ItS}{y:ItS}:y∈goL g s l↔∃ x∈l,gg g x.1 x.2.1=some s/\y=(x.1,(x.2.1+1,x.2.2)):=by
 unfold goL
 rw[dU]
 constructor
 ·rintro⟨x,hx,hy⟩
  unfold goX at hy
  split at hy
  ·rename_i h;exact⟨x,hx,h,aS.1 hy⟩
  ·cases hy
 ·rintro⟨x,hx,h,rfl⟩
  exact⟨x,hx,by unfold goX;rw[if_pos h];exact aS.2 rfl⟩
theorem u0{g:GrS}(hg:Gs g)(s:SyS){l:List ItS}(hl:OkI l):OkI (goL g s l):=by
 refine⟨λy hy=>?_,λy hy=>?_⟩
 ·obtain⟨x,hx,_,rfl⟩:=En.1 hy
  exact hl.bd x hx
 ·obtain⟨x,hx,hn,rfl⟩:=En.1 hy
  have:=P7 hg hn
  exact⟨this.1,this.2.1,by show 0<=x.2.1+1;omega,by show x.2.1+1<=20;omega⟩
theorem yr{l:List ItS}(hl:OkI l):OkI (gf l):=by
 have hc:=lK hl.bd
 exact J5 hc λp d o h=>hl.inU h
theorem Ba(g:GrS)(s:SyS)(l:List ItS){j:Nat}(h:j<l.length):goL g s (l.take (j+1))=goL g s (l.take j)++goX g s l[j]:=by
 unfold goL
 rw[dB _ _ h,iw]
 simp
theorem po{y s:SyS}:((bif(y.1 == s.1)then decide (y.2=s.2)else false)=true)↔some y=some s:=by
 obtain⟨a,b⟩:=y
 obtain⟨c,d⟩:=s
 cases a <;> cases c <;> simp
theorem Qg{g:GrS}(hg:Gs g)(s:SyS){l:List ItS}(hl:OkI l)(hll:l.length<=100000):p50 N0 (g,(l,(s,())))=some ((gf (goL g s l),()),()):=by
 unfold p50
 simp only[aL,decide_eq_true_eq]
 refine bT (λj=>((),(goL g s (l.take j),((j:Int),())))) (λ_=>some ((gf (goL g s l),()),())) l.length (λj hj K hK=>?_) N0 0 (aH _) (by unfold N0;omega)
 rcases ap j l.length with h|h
 ·have c:(j:Int)<(l.length:Int):=by omega
  have hK:=hK h
  have hj1:IntKind.wrap .i64 ((j:Int)+1)=((j+1:Nat):Int):=cH h (by omega)
  have hgl:=oN g s (l.take j)
  rw[aK]at hgl
  rw[Ba g s l h]at hK
  have hrg:=hl.rg _ (bp h)
  simp only[c,decide_true,cond_true,aX,if_true,aa,ah h,Cy,aC,hj1]
  generalize l[j]=x at *
  generalize goL g s (l.take j)=out at *
  have hw:IntKind.wrap .i64 (x.2.1+1)=x.2.1+1:=bC (by omega) (by omega)
  rw[<-hK]
  unfold goX
  cases hn:gg g x.1 x.2.1 with
  |none=>simp
  |some y=>
   simp only[cond_true,hw]
   by_cases he:some y=some s
   ·rw[po.2 he,cond_true,if_pos he,if_pos (by simp;omega),if_pos (by simp;omega)]
   ·have hf:(bif(y.1 == s.1)then decide (y.2=s.2)else false)=false:=by
     cases hq:(bif(y.1 == s.1)then decide (y.2=s.2)else false)
     ·rfl
     ·exact absurd (po.1 hq) he
    rw[hf,cond_false,if_neg he,b9]
 ·have c:¬(j:Int)<(l.length:Int):=by omega
  simp only[c,decide_false,cond_false]
  rw[bZ h]
  have hok:=u0 hg s hl
  have:=oN g s l
  rw[JW hok.bd (by omega)]
  rfl
theorem Qh{g:GrS}(hg:Gs g)(s:SyS){l:List ItS}(hl:OkI l)(hll:l.length<=100000):p26 N0 (g,(l,(s,())))=some ((gf (goL g s l),()),()):=by
 unfold p26
 simp only[aL,decide_eq_true_eq]
 refine bT (λj=>((),(goL g s (l.take j),((j:Int),())))) (λ_=>some ((gf (goL g s l),()),())) l.length (λj hj K hK=>?_) N0 0 (aH _) (by unfold N0;omega)
 rcases ap j l.length with h|h
 ·have c:(j:Int)<(l.length:Int):=by omega
  have hK:=hK h
  have hj1:IntKind.wrap .i64 ((j:Int)+1)=((j+1:Nat):Int):=cH h (by omega)
  have hgl:=oN g s (l.take j)
  rw[aK]at hgl
  rw[Ba g s l h]at hK
  have hrg:=hl.rg _ (bp h)
  simp only[c,decide_true,cond_true,aX,if_true,aa,ah h,Cz,aC,hj1]
  generalize l[j]=x at *
  generalize goL g s (l.take j)=out at *
  have hw:IntKind.wrap .i64 (x.2.1+1)=x.2.1+1:=bC (by omega) (by omega)
  rw[<-hK]
  unfold goX
  cases hn:gg g x.1 x.2.1 with
  |none=>simp
  |some y=>
   simp only[cond_true,hw]
   by_cases he:some y=some s
   ·rw[po.2 he,cond_true,if_pos he,if_pos (by simp;omega),if_pos (by simp;omega)]
   ·have hf:(bif(y.1 == s.1)then decide (y.2=s.2)else false)=false:=by
     cases hq:(bif(y.1 == s.1)then decide (y.2=s.2)else false)
     ·rfl
     ·exact absurd (po.1 hq) he
    rw[hf,cond_false,if_neg he,b9]
 ·have c:¬(j:Int)<(l.length:Int):=by omega
  simp only[c,decide_false,cond_false]
  rw[bZ h]
  have hok:=u0 hg s hl
  have:=oN g s l
  rw[Cw hok.bd (by omega)]
  rfl
end
noncomputable section
structure Gz(A:SyS->Prop)(l:List SyS):Prop where
 st:l.Pairwise λx y=>ltS x y=true
 mem:∀ s,s∈l↔A s
theorem Ep:∀ {l m:List SyS},l.Pairwise (λx y=>ltS x y=true)->m.Pairwise (λx y=>ltS x y=true)->(∀ x,x∈l↔x∈m)->l=m
 |[],[],_,_,_=>rfl
 |[],b::m,_,_,h=>by have:=(h b).2 bE;cases this
 |a::l,[],_,_,h=>by have:=(h a).1 bE;cases this
 |a::l,b::m,h1,h2,h=>by
  obtain⟨p1,p2⟩:=dH.1 h1
  obtain⟨q1,q2⟩:=dH.1 h2
  have e:a=b:=by
   rcases aA.1 ((h a).1 bE)with e|ha
   ·exact e
   rcases aA.1 ((h b).2 bE)with e|hb
   ·exact e.symm
   exact(xT (p1 b hb) (q1 a ha)).elim
  subst e
  have:=Ep p2 q2 (λx=>by
   constructor
   ·intro hx
    rcases aA.1 ((h x).1 (bK _ hx))with e|hm
    ·subst e
     have:=p1 x hx
     rw[mh]at this;cases this
    ·exact hm
   ·intro hx
    rcases aA.1 ((h x).2 (bK _ hx))with e|hm
    ·subst e
     have:=q1 x hx
     rw[mh]at this;cases this
    ·exact hm)
  rw[this]
theorem Gz.Cp{A:SyS->Prop}{l m:List SyS}(h:Gz A l)(k:Gz A m):l=m:=Ep h.st k.st λs=>(h.mem s).trans (k.mem s).symm
def Nxs(g:GrS)(l:List ItS)(s:SyS):Prop:=∃ x∈l,gg g x.1 x.2.1=some s
def rY(g:GrS)(out:List SyS)(x:ItS):List SyS:=match gg g x.1 x.2.1 with
 |some s=>if s∈out then out else out++[s]
 |none=>out
def pp(g:GrS)(l:List ItS):List SyS:=l.foldl (rY g) []
theorem GA(g:GrS)(l:List ItS){j:Nat}(h:j<l.length):pp g (l.take (j+1))=rY g (pp g (l.take j)) l[j]:=by
 unfold pp
 rw[dB _ _ h,kO]
 rfl
theorem GB(g:GrS)(l:List ItS):(pp g l).Nodup/\∀ s,s∈pp g l↔Nxs g l s:=by
 have key:∀ (l:List ItS) (o:List SyS),o.Nodup->(l.foldl (rY g) o).Nodup/\∀ s,s∈l.foldl (rY g) o↔s∈o\/Nxs g l s:=by
  intro l
  induction l with
  |nil=>intro o ho;exact⟨ho,λs=>⟨.inl,λh=>h.elim id λ⟨x,hx,_⟩=>by cases hx⟩⟩
  |cons x l ih=>
   intro o ho
   have hx:(rY g o x).Nodup/\∀ s,s∈rY g o x↔s∈o\/gg g x.1 x.2.1=some s:=by
    unfold rY
    cases hn:gg g x.1 x.2.1 with
    |none=>exact⟨ho,λs=>by simp⟩
    |some y=>
     simp only
     split
     ·rename_i hm
      refine⟨ho,λs=>⟨.inl,?_⟩⟩
      rintro(h|h)
      ·exact h
      ·cases h;exact hm
     ·rename_i hm
      refine⟨List.nodup_append.2 ⟨ho,qQ.2 ⟨by simp,List.nodup_nil⟩,λa ha b hb=>by
       rw[aS.1 hb]
       intro e;exact hm (e ▸ ha)⟩,λs=>?_⟩
      rw[ar,aS]
      constructor
      ·rintro(h|h)
       ·exact .inl h
       ·exact .inr (by rw[h])
      ·rintro(h|h)
       ·exact .inl h
       ·cases h;exact .inr rfl
   obtain⟨h1,h2⟩:=ih (rY g o x) hx.1
   refine⟨h1,λs=>(h2 s).trans ?_⟩
   rw[hx.2]
   constructor
   ·rintro((h|h)|⟨z,hz,h⟩)
    ·exact .inl h
    ·exact .inr ⟨x,bE,h⟩
    ·exact .inr ⟨z,bK _ hz,h⟩
   ·rintro(h|⟨z,hz,h⟩)
    ·exact .inl (.inl h)
    ·rcases aA.1 hz with rfl|hz
     ·exact .inl (.inr h)
     ·exact .inr ⟨z,hz,h⟩
 obtain⟨h1,h2⟩:=key l [] List.nodup_nil
 exact⟨h1,λs=>(h2 s).trans (by simp)⟩
theorem Kd(g:GrS)(o:List SyS)(x:ItS):(rY g o x).length<=o.length+1:=by
 unfold rY
 split
 ·split
  ·omega
  ·simp
 ·omega
theorem Bb(g:GrS)(l:List ItS):(pp g l).length<=l.length:=by
 have key:∀ (l:List ItS) (o:List SyS),(l.foldl (rY g) o).length<=o.length+l.length:=by
  intro l
  induction l with
  |nil=>intro o;simp
  |cons x l ih=>
   intro o
   have h1:=ih (rY g o x)
   have h2:=Kd g o x
   simp only[qO,aO]
   omega
 simpa [pp]using key l []
def bQ(g:GrS)(l:List ItS):List SyS:=gY (pp g l)
theorem Er(g:GrS)(l:List ItS):Gz (Nxs g l) (bQ g l):=by
 obtain⟨h1,h2⟩:=GB g l
 have hp:=iH (pp g l)
 have hnd:(gY (pp g l)).Nodup:=hp.nodup_iff.2 h1
 refine⟨?_,λs=>(hp.mem_iff).trans (h2 s)⟩
 have RY:=(ml (pp g l)).and hnd
 refine RY.imp λ{a b} h=>?_
 rcases uw a b with h'|h'|h'
 ·exact h'
 ·exact absurd h' h.2
 ·have:=h.1
  unfold leS at this
  rw[h']at this;cases this
theorem nK(g:GrS)(l:List ItS):(bQ g l).length<=l.length:=by
 unfold bQ
 rw[(iH _).length_eq]
 exact Bb g l
theorem Qi{o:List SyS}(ho:o.length<=1000000)(s:SyS):p81 N0 (o,(s,()))=some ((decide (s∈o),()),()):=by
 have h103:∃ i:Int,Mh N0 (o,(s,()))=some ((i,()),())/\(0<=i↔s∈o):=by
  unfold Mh
  simp only[aL,decide_eq_true_eq]
  by_cases hs:s∈o
  ·-- the first place
   have Qj:∃ i,∃ h:i<o.length,o[i]=s/\∀ k (h':k<o.length),k<i->o[k]≠s:=by
    have:∀ n,(∃ i,i<n/\∃ h:i<o.length,o[i]=s)->∃ i,∃ h:i<o.length,o[i]=s/\∀ k (h':k<o.length),k<i->o[k]≠s:=by
     intro n
     induction n with
     |zero=>rintro⟨i,h,_⟩;omega
     |succ n ih=>
      rintro⟨i,hi,hl,he⟩
      by_cases hex:∃ k,k<n/\∃ h:k<o.length,o[k]=s
      ·exact ih hex
      ·have:i=n:=by
        apply jw
        intro hne
        exact hex ⟨i,by omega,hl,he⟩
       subst this
       exact⟨i,hl,he,λk h' hk e=>hex ⟨k,hk,h',e⟩⟩
    obtain⟨i,hi,he⟩:=fo.1 hs
    exact this (i+1) ⟨i,by omega,hi,he⟩
   obtain⟨i,hi,he,hno⟩:=Qj
   refine⟨i,?_,⟨λ_=>hs,λ_=>aX i⟩⟩
   refine bT (λj=>((),((j:Int),()))) (λ_=>some (((i:Int),()),())) i (λj hj K hK=>?_) N0 0 (aH _) (by unfold N0;omega)
   have hjl:j<o.length:=by omega
   have c:(j:Int)<(o.length:Int):=by omega
   have hj1:IntKind.wrap .i64 ((j:Int)+1)=((j+1:Nat):Int):=cH hjl (by omega)
   simp only[c,decide_true,cond_true,aX,if_true,aa,ah hjl,hj1]
   by_cases e:j=i
   ·subst e
    have:(bif(s.1 == o[j].1)then decide (s.2=o[j].2)else false)=true:=po.2 (by rw[he])
    rw[this];rfl
   ·have hne:=hno j hjl (by omega)
    have:(bif(s.1 == o[j].1)then decide (s.2=o[j].2)else false)=false:=by
     cases hq:(bif(s.1 == o[j].1)then decide (s.2=o[j].2)else false)
     ·rfl
     ·have:=po.1 hq
      cases this
      exact absurd rfl hne
    rw[this]
    exact hK (by omega)
  ·refine⟨-1,?_,⟨λh=>by omega,λh=>absurd h hs⟩⟩
   refine bT (λj=>((),((j:Int),()))) (λ_=>some ((-1,()),())) o.length (λj hj K hK=>?_) N0 0 (aH _) (by unfold N0;omega)
   rcases ap j o.length with hjl|hjl
   ·have c:(j:Int)<(o.length:Int):=by omega
    have hj1:IntKind.wrap .i64 ((j:Int)+1)=((j+1:Nat):Int):=cH hjl (by omega)
    simp only[c,decide_true,cond_true,aX,if_true,aa,ah hjl,hj1]
    have:(bif(s.1 == o[j].1)then decide (s.2=o[j].2)else false)=false:=by
     cases hq:(bif(s.1 == o[j].1)then decide (s.2=o[j].2)else false)
     ·rfl
     ·have:=po.1 hq
      cases this
      exact absurd (bp hjl) hs
    rw[this]
    exact hK hjl
   ·have c:¬(j:Int)<(o.length:Int):=by omega
    simp only[c,decide_false,cond_false]
 obtain⟨i,h1,h2⟩:=h103
 unfold p81
 simp only[h1,aC]
 congr 3
 by_cases hs:s∈o
 ·simp[h2.2 hs,hs]
 ·have:¬0<=i:=λh=>hs (h2.1 h)
  simp[this,hs]
theorem Qk(g:GrS){l:List ItS}(hll:l.length<=100000):p49 N0 (g,(l,()))=some ((bQ g l,()),()):=by
 unfold p49
 simp only[aL,cm,decide_eq_true_eq]
 refine bT (λj=>((),(pp g (l.take j),((j:Int),())))) (λ_=>some ((bQ g l,()),())) l.length (λj hj K hK=>?_) N0 0 (aH _) (by unfold N0;omega)
 have hdl:=Bb g (l.take j)
 rw[aK]at hdl
 rcases ap j l.length with h|h
 ·have c:(j:Int)<(l.length:Int):=by omega
  have hK:=hK h
  have hj1:IntKind.wrap .i64 ((j:Int)+1)=((j+1:Nat):Int):=cH h (by omega)
  rw[GA g l h]at hK
  simp only[c,if_true,aX,aa,ah h,Cy,aC,hj1]
  generalize l[j]=x at *
  generalize pp g (l.take j)=out at *
  rw[<-hK]
  unfold rY
  cases hn:gg g x.1 x.2.1 with
  |none=>simp
  |some y=>
   simp only[if_true,Qi (by omega:out.length<=1000000) y,aC]
   by_cases hm:y∈out
   ·simp[hm]
   ·simp only[hm,decide_false,aJ,if_true,aO,bJ,if_false]
    rw[if_pos (by omega),if_pos (by omega)]
 ·have c:¬(j:Int)<(l.length:Int):=by omega
  rw[bZ h]at hdl |-
  simp only[c,if_false]
  have h82:p82 N0 (pp g l,((),()))=some ((),(bQ g l,())):=by
   unfold p82
   rw[if_pos (by show(pp g l).length<_;omega)]
   rfl
  rw[h82]
  rfl
end
noncomputable section
def Ns(kb:Bool)(o:List SyS)(s:SyS):Bool:=match o[o.length-1]? with
 |some y=>(y.1 == kb)&&decide (s.2<=y.2)
 |none=>false
def okS(kb:Bool)(o:List SyS)(s:SyS):Bool:=(s.1 == kb)&&!Ns kb o s
def ju(g:GrS)(l:List ItS)(kb:Bool)(o:List SyS)(b0:SyS):Nat->SyS×Bool
 |0=>(b0,false)
 |j+1=>match l[j]? with
  |some x=>(match gg g x.1 x.2.1 with
   |some s=>if(okS kb o s&&(!(ju g l kb o b0 j).2||decide (s.2<(ju g l kb o b0 j).1.2)))=true then(s,true)else ju g l kb o b0 j
   |none=>ju g l kb o b0 j)
  |none=>ju g l kb o b0 j
theorem wT(g:GrS)(l:List ItS)(kb:Bool)(o:List SyS)(b0:SyS){j:Nat}(h:j<l.length):ju g l kb o b0 (j+1)=(match gg g l[j].1 l[j].2.1 with
 |some s=>if(okS kb o s&&(!(ju g l kb o b0 j).2||decide (s.2<(ju g l kb o b0 j).1.2)))=true then(s,true)else ju g l kb o b0 j
 |none=>ju g l kb o b0 j):=by
 rw[ju,ah h]
theorem wU(g:GrS)(l:List ItS)(kb:Bool)(o:List SyS)(b0:SyS):∀ j,j<=l.length->
 ((ju g l kb o b0 j).2=false->∀ k (h:k<l.length) s,k<j->gg g l[k].1 l[k].2.1=some s->okS kb o s=false)/\
 ((ju g l kb o b0 j).2=true->okS kb o (ju g l kb o b0 j).1=true/\(∃ x∈l,gg g x.1 x.2.1=some (ju g l kb o b0 j).1)/\∀ k (h:k<l.length) s,k<j->gg g l[k].1 l[k].2.1=some s->okS kb o s=true->(ju g l kb o b0 j).1.2<=s.2)
 |0,_=>⟨λ_ k h s hk=>by omega,λh=>by cases h⟩
 |j+1,hj=>by
  obtain⟨ih1,ih2⟩:=wU g l kb o b0 j (by omega)
  have hjl:j<l.length:=by omega
  rw[wT g l kb o b0 hjl]
  generalize ju g l kb o b0 j=B at *
  have hkj:∀ k (h:k<l.length),k<j+1->k<j\/k=j:=λk _ h=>by omega
  cases hn:gg g l[j].1 l[j].2.1 with
  |none=>
   simp only
   refine⟨λhb k hk s yu hs=>?_,λhb=>⟨(ih2 hb).1,(ih2 hb).2.1,λk hk s yu hs=>?_⟩⟩
   ·rcases hkj k hk yu with h|h
    ·exact ih1 hb k hk s h hs
    ·subst h;rw[hn]at hs;cases hs
   ·rcases hkj k hk yu with h|h
    ·exact(ih2 hb).2.2 k hk s h hs
    ·subst h;rw[hn]at hs;cases hs
  |some y=>
   simp only
   by_cases hc:(okS kb o y&&(!B.2||decide (y.2<B.1.2)))=true
   ·rw[if_pos hc]
    rw[ag,aG]at hc
    refine⟨(λh=>by cases h),λ_=>⟨hc.1,⟨_,bp hjl,hn⟩,λk hk s yu hs hok=>?_⟩⟩
    rcases hkj k hk yu with h|h
    ·rcases hc.2 with h2|h2
     ·have:=ih1 (by simpa using h2) k hk s h hs
      rw[this]at hok;cases hok
     ·by_cases hB:B.2=true
      ·have:=(ih2 hB).2.2 k hk s h hs hok
       have h2:y.2<B.1.2:=by simpa using h2
       show y.2<=s.2
       omega
      ·have:=ih1 (by simpa using hB) k hk s h hs
       rw[this]at hok;cases hok
    ·subst h
     rw[hn]at hs
     cases hs
     exact jF _
   ·rw[if_neg hc]
    have hc':okS kb o y=true->B.2=true/\B.1.2<=y.2:=λhok=>by
     rw[hok,bF]at hc
     have:=hc
     simp only[aG,bu,decide_eq_true_eq,not_or,Bool.not_eq_false]at this
     exact⟨this.1,by omega⟩
    refine⟨λhb k hk s yu hs=>?_,λhb=>⟨(ih2 hb).1,(ih2 hb).2.1,λk hk s yu hs hok=>?_⟩⟩
    ·rcases hkj k hk yu with h|h
     ·exact ih1 hb k hk s h hs
     ·subst h
      rw[hn]at hs
      cases hs
      cases hok:okS kb o y
      ·rfl
      ·rw[(hc' hok).1]at hb;cases hb
    ·rcases hkj k hk yu with h|h
     ·exact(ih2 hb).2.2 k hk s h hs hok
     ·subst h
      rw[hn]at hs
      cases hs
      exact(hc' hok).2
structure Bc(g:GrS)(l:List ItS)(kb:Bool)(o:List SyS):Prop where
 st:o.Pairwise λx y=>ltS x y=true
 a:∀ s∈o,Nxs g l s/\(s.1=true->kb=true)
 al:∀ s,Nxs g l s->s∈o\/(s.1=kb/\∀ y∈o,ltS y s=true)\/(s.1=true/\kb=false)
theorem RZ{o:List SyS}(h:o.Pairwise λx y=>ltS x y=true){y:SyS}(hy:o[o.length-1]?=some y):∀ z∈o,z=y\/ltS z y=true:=by
 intro z hz
 obtain⟨i,hi,rfl⟩:=fo.1 hz
 obtain⟨hl,rfl⟩:=bw.1 hy
 by_cases e:i=o.length-1
 ·subst e;exact .inl rfl
 ·exact .inr (nO.1 h i (o.length-1) hi hl (by omega))
theorem tb{g:GrS}{l:List ItS}{kb:Bool}{o:List SyS}(h:Bc g l kb o)(s:SyS):okS kb o s=true↔s.1=kb/\∀ y∈o,ltS y s=true:=by
 unfold okS Ns
 rw[ag,beq_iff_eq]
 refine and_congr_right λhk=>?_
 cases hy:o[o.length-1]? with
 |none=>
  have:o=[]:=by
   rcases List.eq_nil_or_concat o with h|⟨a,b,rfl⟩
   ·exact h
   ·simp at hy
  subst this
  simp
 |some y=>
  have hym:=dg hy
  have hyk:=(h.a y hym).2
  have key:ltS y s=true↔¬((y.1 == kb)=true/\s.2<=y.2):=by
   rw[mg,hk]
   cases hy1:y.1
   ·cases kb <;> simp
   ·rw[hyk hy1];simp
  simp only[bu,im,decide_eq_false_iff_not]
  constructor
  ·intro hn z hz
   have hys:ltS y s=true:=key.2 λ⟨a,b⟩=>by
    rcases hn with hn|hn
    ·rw[a]at hn;cases hn
    ·exact hn b
   rcases RZ h.st hy z hz with rfl|hlt
   ·exact hys
   ·exact xS hlt hys
  ·intro fT
   have:=key.1 (fT y hym)
   by_cases hb:(y.1 == kb)=true
   ·exact .inr λhle=>this ⟨hb,hle⟩
   ·exact .inl (by simpa using hb)
theorem Bc.more{g:GrS}{l:List ItS}{kb:Bool}{o:List SyS}(h:Bc g l kb o){s:SyS}(hok:okS kb o s=true)(hs:Nxs g l s)(OC:∀ t,Nxs g l t->okS kb o t=true->s.2<=t.2):Bc g l kb (o++[s]):=by
 obtain⟨h1,h2⟩:=(tb h s).1 hok
 refine⟨gH.2 ⟨h.st,nP _ _,λa ha b hb=>by rw[aS.1 hb];exact h2 a ha⟩,λt ht=>?_,λt ht=>?_⟩
 ·rcases ar.1 ht with ht|ht
  ·exact h.a t ht
  ·rw[aS.1 ht]
   exact⟨hs,λe=>by rw[<-h1,e]⟩
 ·rcases h.al t ht with h3|⟨h3,h4⟩|h3
  ·exact .inl (ar.2 (.inl h3))
  ·have hle:=OC t ht ((tb h t).2 ⟨h3,h4⟩)
   by_cases e:t=s
   ·exact .inl (ar.2 (.inr (aS.2 e)))
   ·refine .inr (.inl ⟨h3,λy hy=>?_⟩)
    rcases ar.1 hy with hy|hy
    ·exact h4 y hy
    ·rw[aS.1 hy,mg]
     right
     refine⟨h1.trans h3.symm,?_⟩
     have hne:t.2≠s.2:=λe2=>e (by
      obtain⟨a,b⟩:=t
      obtain⟨c,d⟩:=s
      simp only at *
      rw[h3,h1,e2])
     omega
  ·exact .inr (.inr h3)
def goA(g:GrS)(l:List ItS)(k:Nat)(s:SyS):Prop:=Nxs g l s/\(s.1=true->2<=k)/\1<=k
theorem Bc.fin{g:GrS}{l:List ItS}{kb:Bool}{o:List SyS}(h:Bc g l kb o)(hno:∀ t,Nxs g l t->okS kb o t=false):Gz (goA g l (if kb=true then 2 else 1)) o:=by
 refine⟨h.st,λs=>⟨λhs=>?_,λhs=>?_⟩⟩
 ·obtain⟨h1,h2⟩:=h.a s hs
  refine⟨h1,λe=>?_,?_⟩
  ·rw[if_pos (h2 e)];exact au _
  ·split <;> omega
 ·obtain⟨h1,h2,_⟩:=hs
  rcases h.al s h1 with h3|h3|h3
  ·exact h3
  ·have:=(tb h s).2 h3
   rw[hno s h1]at this;cases this
  ·have:=h2 h3.1
   rw[if_neg (by rw[h3.2];exact ix)]at this
   omega
def goS(g:GrS)(l:List ItS):Nat->List SyS
 |0=>[]
 |1=>(bQ g l).filter λs=>!s.1
 |_=>bQ g l
theorem Ke(g:GrS)(l:List ItS)(k:Nat):Gz (goA g l k) (goS g l k):=by
 have h:=Er g l
 match k with
 |0=>exact⟨.nil,λs=>⟨(λh=>by cases h),(λh=>by have:=h.2.2;omega)⟩⟩
 |1=>
  refine⟨h.st.filter _,λs=>?_⟩
  show s∈(bQ g l).filter _↔_
  rw[nY,h.mem]
  unfold goA
  cases hs:s.1 <;> simp
 |k+2=>
  refine⟨h.st,λs=>?_⟩
  show s∈bQ g l↔_
  rw[h.mem]
  unfold goA
  constructor
  ·intro h;exact⟨h,λ_=>by omega,by omega⟩
  ·intro h;exact h.1
theorem CH(g:GrS)(l:List ItS)(k:Nat)(hk:k<2):Bc g l (decide (k=1)) (goS g l k):=by
 have h:=Ke g l k
 refine⟨h.st,λs hs=>?_,λs hs=>?_⟩
 ·obtain⟨h1,h2,h3⟩:=(h.mem s).1 hs
  refine⟨h1,λe=>?_⟩
  have:=h2 e
  omega
 ·by_cases hm:s∈goS g l k
  ·exact .inl hm
  ·right
   match k,hk with
   |0,_=>
    cases h1:s.1
    ·exact .inl ⟨rfl,λy hy=>by cases hy⟩
    ·exact .inr ⟨rfl,rfl⟩
   |1,_=>
    cases h1:s.1
    ·exact absurd ((h.mem s).2 ⟨hs,(λe=>by rw[h1]at e;cases e),by omega⟩) hm
    ·refine .inl ⟨rfl,λy hy=>?_⟩
     obtain⟨_,h3,_⟩:=(h.mem y).1 hy
     rw[mg]
     left
     refine⟨?_,h1⟩
     cases h4:y.1
     ·rfl
     ·have:=h3 h4;omega
set_option maxHeartbeats 2000000 in
theorem Ql(g:GrS){l:List ItS}(hll:l.length<=100000):p72 N0 (g,(l,()))=some ((bQ g l,()),()):=by
 have hsl:=nK g l
 unfold p72
 simp only[aL]
 simp only[cm,decide_eq_true_eq]
 refine bT (λk=>((),(goS g l k,((k:Int),())))) (λ_=>some ((bQ g l,()),())) 2 (λk hk K hK=>?_) N0 0 (aH _) (by unfold N0;omega)
 rcases ap k 2 with hk2|hk2
 case inr=>
  have e:k=2:=by omega
  subst e
  simp only[show ¬((2:Nat):Int)<2 by omega,if_false]
  rfl
 have c:(k:Int)<2:=by omega
 have hk1:IntKind.wrap .i64 ((k:Int)+1)=((k+1:Nat):Int):=cH (by omega:k<1000) (by omega)
 have hK:=hK hk2
 obtain⟨kb,hkb⟩:∃ kb,kb=decide ((k:Int)=1):=⟨_,rfl⟩
 have R0:kb=decide (k=1):=by rw[hkb];congr 1;exact propext (by omega)
 have hgo:(if kb=true then 2 else 1)=k+1:=by
  rw[R0]
  by_cases e:k=1
  ·simp[e]
  ·have:k=0:=by omega
   simp[this]
 simp only[c,if_true,hk1,<-hkb]
 refine aZ (λm z r=>∃ (o:List SyS) (mo:Bool),z=((),(o,(mo,())))/\Bc g l kb o/\(mo=false->∀ t,Nxs g l t->okS kb o t=false)/\m=ig (bQ g l) (λs=>s∈o)+(if mo=true then 1 else 0)/\r=some ((bQ g l,()),())) ?_ N0 (ig (bQ g l) (λs=>s∈goS g l k)+1) _ _ (by
  have:=jd (bQ g l) (λs=>s∈goS g l k)
  unfold N0;omega) ⟨goS g l k,true,rfl,by rw[R0];exact CH g l k hk2,(λh=>by cases h),rfl,rfl⟩
 rintro m z r ⟨o,mo,rfl,hI,hno,rfl,rfl⟩ M hM
 have hol:o.length<=l.length:=by
  have hnd:o.Nodup:=hI.st.imp λ{a b} h e=>by subst e;rw[mh]at h;cases h
  have:=rE (λ(s:SyS) (c:Nat)=>∃ x,l[c]?=some x/\gg g x.1 x.2.1=some s) (λs t c ⟨x,h1,h2⟩ ⟨y,h3,h4⟩=>by
   rw[h1]at h3;cases h3
   rw[h2]at h4;cases h4;rfl) l.length o hnd (λs hs=>by
   obtain⟨x,hx,hn⟩:=(hI.a s hs).1
   obtain⟨i,hi,rfl⟩:=fo.1 hx
   exact⟨i,hi,_,ah hi,hn⟩)
  exact this
 cases mo
 ·simp only[av,if_false]
  have h1:=hI.fin (hno rfl)
  rw[hgo]at h1
  rw[h1.Cp (Ke g l (k+1))]
  exact hK
 simp only[if_true]at hM |-
 refine bT (λj=>((o,((ju g l kb o (false,0) j).1,())),((ju g l kb o (false,0) j).2,((j:Int),())))) (λ_=>some ((bQ g l,()),())) l.length (λj hj L hL=>?_) N0 0 (aH _) (by unfold N0;omega)
 rcases ap j l.length with h|h
 ·have cj:(j:Int)<(l.length:Int):=by omega
  have hL:=hL h
  have hj1:IntKind.wrap .i64 ((j:Int)+1)=((j+1:Nat):Int):=cH h (by omega)
  rw[wT g l kb o (false,0) h]at hL
  simp only[cj,if_true,aX,aa,ah h,Cz,aC,hj1]
  generalize l[j]=x at *
  generalize ju g l kb o (false,0) j=B at *
  obtain⟨B1,B2⟩:=B
  rw[<-hL]
  clear hL hM hK
  by_cases ho:(0:Int)<((o.length:Nat):Int)
  ·have hw:IntKind.wrap .i64 ((o.length:Int)-1)=((o.length-1:Nat):Int):=by rw[bC (by omega) (by omega)];omega
   have wN:o.length-1<o.length:=by omega
   simp only[ho,if_true,hw,aX,aa,ah wN]
   unfold okS Ns
   rw[ah wN]
   generalize o[o.length-1]=y
   cases hn:gg g x.1 x.2.1 with
   |none=>
    by_cases h2:(y.1 == kb)=true
    ·simp
    ·simp
   |some s=>
    simp only[aB,av,if_false]
    cases h1:(s.1 == kb)
    ·simp
    ·by_cases h2:(y.1 == kb)=true
     ·by_cases h4:s.2<=y.2
      ·simp[h4,h2]
      ·cases B2
       ·simp[h4,h2]
       ·by_cases h3:s.2<B1.2
        ·simp[h3,h4,h2]
        ·simp[h3,h4,h2]
     ·cases B2
      ·simp[h2]
      ·by_cases h3:s.2<B1.2
       ·simp[h3,h2]
       ·simp[h3,h2]
  ·have:o=[]:=qy.1 (by omega)
   subst this
   simp only[ho,if_false]
   unfold okS Ns
   cases hn:gg g x.1 x.2.1 with
   |none=>simp
   |some s=>
    simp only[aB,av,if_false]
    cases h1:(s.1 == kb)
    ·simp
    ·cases B2
     ·simp
     ·by_cases h3:s.2<B1.2
      ·simp[h3]
      ·simp[h3]
 ·have cj:¬(j:Int)<(l.length:Int):=by omega
  have e:j=l.length:=by omega
  subst e
  simp only[cj,if_false]
  obtain⟨s1,s2⟩:=wU g l kb o (false,0) l.length (au _)
  have hNx:∀ t,Nxs g l t->∃ k,∃ h:k<l.length,gg g l[k].1 l[k].2.1=some t:=λt ⟨x,hx,hn⟩=>by
   obtain⟨i,hi,rfl⟩:=fo.1 hx
   exact⟨i,hi,hn⟩
  cases hB:(ju g l kb o (false,0) l.length).2
  ·simp only[av,if_false]
   refine hM (ig (bQ g l) (λs=>s∈o)) _ _ (by omega) ⟨o,false,rfl,hI,λ_ t ht=>?_,rfl,rfl⟩
   obtain⟨i,hi,hn⟩:=hNx t ht
   exact s1 hB i hi t hi hn
  ·obtain⟨b1,b2,b3⟩:=s2 hB
   simp only[if_true,aO,bJ]
   rw[if_pos (by omega),if_pos (by omega)]
   have hI':=hI.more b1 b2 λt ht hok=>by
    obtain⟨i,hi,hn⟩:=hNx t ht
    exact b3 i hi t hi hn hok
   have sI:¬(ju g l kb o (false,0) l.length).1∈o:=λhm=>by
    have:=((tb hI _).1 b1).2 _ hm
    rw[mh]at this;cases this
   have hlt:=oH (U:=bQ g l) (P:=λs=>s∈o) (Q:=λs=>s∈o++[(ju g l kb o (false,0) l.length).1]) (λu _ hu=>ar.2 (.inl hu)) (((Er g l).mem _).2 b2) sI (ar.2 (.inr (aS.2 rfl)))
   exact hM (ig (bQ g l) (λs=>s∈o++[(ju g l kb o (false,0) l.length).1])+1) _ _ (by omega) ⟨_,true,rfl,hI',(λh=>by cases h),rfl,rfl⟩
end
noncomputable section
theorem wrap_u8{n:Int}(h:0<=n):IntKind.wrap .u8 n=n % 256:=by
 simp[IntKind.wrap,IntKind.bits,IntKind.signed]
def eK(a:Int)(i:Nat):Int:=((a.toNat / 2 ^ (8*i) % 256:Nat):Int)
def u9(x:ItS):List Int:=[eK x.1 1,eK x.1 0,eK x.2.1 1,eK x.2.1 0]++(List.range 8).map (eK x.2.2)
def da(l:List ItS):List Int:=l.flatMap u9
theorem nL(x:ItS):(u9 x).length=12:=by simp[u9]
theorem GC{a b:Nat}{n:Nat}(h:∀ i,i<n->a / 2 ^ (8*i) % 256=b / 2 ^ (8*i) % 256)(ha:a<2 ^ (8*n))(hb:b<2 ^ (8*n)):a=b:=by
 induction n generalizing a b with
 |zero=>simp at ha hb;omega
 |succ n ih=>
  have h0:=h 0 (by omega)
  simp only[kX,kY,kZ]at h0
  have h1:a / 256=b / 256:=by
   have hp:(2:Nat) ^ (8*(n+1))=256*2 ^ (8*n):=by
    rw[show 8*(n+1)=8+8*n by omega,Nat.pow_add]
   refine ih (λi hi=>?_) ?_ ?_
   ·have:=h (i+1) (by omega)
    rw[show 8*(i+1)=8+8*i by omega,Nat.pow_add,<-nR,<-nR]at this
    exact this
   ·rw[hp]at ha
    exact(Nat.div_lt_iff_lt_mul (by omega)).2 (by rw[Nat.mul_comm];exact ha)
   ·rw[hp]at hb
    exact(Nat.div_lt_iff_lt_mul (by omega)).2 (by rw[Nat.mul_comm];exact hb)
  omega
theorem Kf{x y:ItS}(hx:kH x)(hy:kH y)(rx:0<=x.1/\x.1<=12/\0<=x.2.1/\x.2.1<=20)(ry:0<=y.1/\y.1<=12/\0<=y.2.1/\y.2.1<=20)(h:u9 x=u9 y):x=y:=by
 obtain⟨x1,x2,x3⟩:=x
 obtain⟨y1,y2,y3⟩:=y
 unfold u9 at h
 have e64:(2:Nat) ^ (8*8)=18446744073709551616:=by decide
 obtain⟨h1,h2⟩:=kQ h (by simp)
 simp only[eP,and_true]at h1
 obtain⟨_,a1,_,a2⟩:=h1
 have b1:eK x1 0=x1:=by unfold eK;simp only[kX,kY,kZ];simp only at rx;omega
 have b2:eK y1 0=y1:=by unfold eK;simp only[kX,kY,kZ];simp only at ry;omega
 have b3:eK x2 0=x2:=by unfold eK;simp only[kX,kY,kZ];simp only at rx;omega
 have b4:eK y2 0=y2:=by unfold eK;simp only[kX,kY,kZ];simp only at ry;omega
 simp only at a1 a2 h2
 rw[b1,b2]at a1
 rw[b3,b4]at a2
 have hk:∀ i,i<8->x3.toNat / 2 ^ (8*i) % 256=y3.toNat / 2 ^ (8*i) % 256:=λi hi=>by
  have:=congrArg (λl=>l[i]?) h2
  simp only[bX,dR hi,dz,bh]at this
  unfold eK at this
  omega
 unfold kH at hx hy
 simp only at hx hy
 have:=GC (a:=x3.toNat) (b:=y3.toNat) (n:=8) hk (by rw[e64];omega) (by rw[e64];omega)
 rw[a1,a2,show x3=y3 by omega]
theorem nD:∀ {l m:List ItS},OkI l->OkI m->da l=da m->l=m
 |[],[],_,_,_=>rfl
 |[],y::m,_,_,h=>by
  have:=congrArg List.length h
  simp only[da,kP,qN,ak,nL,bJ]at this
  omega
 |x::l,[],_,_,h=>by
  have:=congrArg List.length h
  simp only[da,kP,qN,ak,nL,bJ]at this
  omega
 |x::l,y::m,hl,hm,h=>by
  have h:u9 x++da l=u9 y++da m:=by simpa [da]using h
  obtain⟨h1,h2⟩:=kQ h (by rw[nL,nL])
  have e:=Kf (hl.bd x bE) (hm.bd y bE) (hl.rg x bE) (hm.rg y bE) h1
  have:=nD (l:=l) (m:=m) ⟨λz hz=>hl.bd z (bK _ hz),λz hz=>hl.rg z (bK _ hz)⟩ ⟨λz hz=>hm.bd z (bK _ hz),λz hz=>hm.rg z (bK _ hz)⟩ h2
  rw[e,this]
theorem GD(l:List ItS){j:Nat}(h:j<l.length):da (l.take (j+1))=da (l.take j)++u9 l[j]:=by
 unfold da
 rw[dB _ _ h,iw]
 simp
theorem lH(l:List ItS):(da l).length=l.length*12:=by
 induction l with
 |nil=>rfl
 |cons x l ih=>
  show(u9 x++da l).length=_
  rw[ak,nL,ih,aO]
  omega
theorem qo{a:Int}(h:0<=a)(i:Nat):IntKind.wrap .u8 (Int.fdiv a (2 ^ (8*i)))=eK a i:=by
 obtain⟨A,rfl⟩:∃ A:Nat,a=(A:Int):=⟨a.toNat,by omega⟩
 have e:((2:Int) ^ (8*i))=((2 ^ (8*i):Nat):Int):=by simp
 rw[e,nN _ (aX _),<-Int.natCast_ediv,wrap_u8 (aX _)]
 unfold eK
 rw[aa]
 omega
set_option maxHeartbeats 1000000 in
theorem Qm{l:List ItS}(hl:OkI l)(hll:l.length<=100000):p46 N0 (l,())=some ((da l,()),()):=by
 unfold p46
 have hw:IntKind.wrap .i64 (12*(l.length:Int))=((12*l.length:Nat):Int):=by rw[bC (by omega) (by omega)];simp
 simp only[aL]
 simp only[cm,decide_eq_true_eq,hw]
 rw[if_pos ⟨by omega,by omega⟩,if_pos (by omega)]
 refine bT (λj=>((),(da (l.take j),((j:Int),())))) (λ_=>some ((da l,()),())) l.length (λj hj K hK=>?_) N0 0 (aH _) (by unfold N0;omega)
 rcases ap j l.length with h|h
 ·have c:(j:Int)<(l.length:Int):=by omega
  have hK:=hK h
  have hj1:IntKind.wrap .i64 ((j:Int)+1)=((j+1:Nat):Int):=cH h (by omega)
  have hkl:=lH (l.take j)
  rw[aK]at hkl
  rw[GD l h]at hK
  have hx:=hl.bd _ (bp h)
  have hr:=hl.rg _ (bp h)
  simp only[c,if_true,aX,aa,ah h,hj1]
  generalize l[j]=x at *
  generalize da (l.take j)=out at *
  have hm8:Nat.min (Int.toNat 8) (IntKind.bits .i64)=8*1:=by decide
  have f1:IntKind.wrap .u8 x.1=eK x.1 0:=by
   rw[<-qo hr.1 0];simp
  have f2:IntKind.wrap .u8 x.2.1=eK x.2.1 0:=by
   rw[<-qo hr.2.2.1 0];simp
  simp only[show ¬(8:Int)<0 by omega,if_false,hm8,qo hr.1,qo hr.2.2.1,f1,f2,aO,bJ]
  rw[if_pos (by omega),if_pos (by omega)]
  rw[<-hK]
  unfold u9
  have hol:(out++[eK x.1 1,eK x.1 0,eK x.2.1 1,eK x.2.1 0]).length=out.length+4:=by simp
  rw[<-aM]
  generalize out++[eK x.1 1,eK x.1 0,eK x.2.1 1,eK x.2.1 0]=o2 at *
  refine bT (λi=>((),(AY o2 ((List.range i).map (eK x.2.2)),((i:Int),())))) (λ_=>K ((),(o2++(List.range 8).map (eK x.2.2),(((j+1:Nat):Int),())))) 8 (λi hi L hL=>?_) N0 0 (aH _) (by unfold N0;omega)
  simp only[oM]at hL |-
  rcases ap i 8 with hi8|hi8
  ·have ci:(i:Int)<8:=by omega
   have hL:=hL hi8
   have hi1:IntKind.wrap .i64 ((i:Int)+1)=((i+1:Nat):Int):=cH (by omega:i<1000) (by omega)
   have g1:IntKind.wrap .u64 (IntKind.wrap .i64 (8*(i:Int)))=((8*i:Nat):Int):=by
    rw[bC (by omega) (by omega),wrap_u64 ⟨by omega,by omega⟩];simp
   have g2:Nat.min (8*i) (IntKind.bits .u64)=8*i:=dm (by show 8*i<=64;omega)
   simp only[ci,if_true,g1,show ¬((8*i:Nat):Int)<0 by omega,if_false,aa,g2,qo hx.1,hi1,ak,bR,kN,aO,bJ]
   rw[if_pos (by omega),if_pos (by omega)]
   rw[kR,eB,<-aM]at hL
   exact hL
  ·have ci:¬(i:Int)<8:=by omega
   have e:i=8:=by omega
   subst e
   simp only[ci,if_false]
 ·have c:¬(j:Int)<(l.length:Int):=by omega
  simp only[c,if_false]
  rw[bZ h]
def dF(l:List ItS):List (List ItS)->Nat
 |[]=>0
 |x::r=>if x=l then 0 else dF l r+1
theorem Es(l:List ItS):∀ r,dF l r<=r.length
 |[]=>au _
 |x::r=>by
  have:=Es l r
  unfold dF
  split
  ·omega
  ·rw[aO];omega
theorem qp{l:List ItS}:∀ {r:List (List ItS)},dF l r<r.length↔l∈r
 |[]=>by simp[dF]
 |x::r=>by
  have:=qp (l:=l) (r:=r)
  unfold dF
  split
  ·rename_i e;subst e;simp
  ·rename_i e
   have e':¬l=x:=λh=>e h.symm
   rw[aO,aA]
   simp only[e',false_or,<-this]
   omega
theorem vd{l:List ItS}:∀ {r:List (List ItS)} (h:dF l r<r.length),r[dF l r]=l
 |[],h=>by simp at h
 |x::r,h=>by
  have:=vd (l:=l) (r:=r)
  unfold dF at h
  by_cases e:x=l
  ·have h0:dF l (x::r)=0:=by unfold dF;rw[if_pos e]
   simp only[h0,List.getElem_cons_zero];exact e
  ·have h0:dF l (x::r)=dF l r+1:=by rw[dF,if_neg e]
   rw[if_neg e]at h
   simp only[h0,List.getElem_cons_succ]
   exact this (by rw[aO]at h;omega)
theorem yv{l:List ItS}:∀ {r:List (List ItS)},¬l∈r->dF l r=r.length
 |[],_=>rfl
 |x::r,h=>by
  have h1:¬x=l:=λe=>h (by rw[e];exact bE)
  rw[dF,if_neg h1,yv (λhm=>h (bK _ hm)),aO]
theorem ve{l:List ItS}:∀ {r:List (List ItS)} (k:Nat) (h:k<r.length),k<dF l r->r[k]≠l
 |[],k,h,_=>by simp at h
 |x::r,k,h,hk=>by
  unfold dF at hk
  split at hk
  ·omega
  ·rename_i e
   cases k with
   |zero=>exact e
   |succ k=>exact ve k (by simpa using h) (by omega)
theorem Bd{l:List ItS}:∀ {r s:List (List ItS)},l∈r->dF l (r++s)=dF l r
 |[],s,h=>by cases h
 |x::r,s,h=>by
  show dF l (x::(r++s))=_
  unfold dF
  split
  ·rfl
  ·rename_i e
   rw[Bd (r:=r) (s:=s)]
   rcases aA.1 h with h|h
   ·exact absurd h.symm e
   ·exact h
def kj(items:List (List ItS))(l:List ItS):List (List ItS):=if l∈items then items else items++[l]
abbrev KMs:=List (List Int×Int)
def eqL(a b:List Int):Bool:=decide (a=b)
theorem wV(k k':List Int)(v:Int):∀ x:KMs,fi eqL k (fe eqL k' v x)=(decide (k=k')||fi eqL k x)
 |[]=>by
  unfold fe fi eqL
  by_cases h:k=k'
  ·simp[h]
  ·simp[h,fi]
 |p::r=>by
  have ih:=wV k k' v r
  unfold fe
  by_cases h1:k'=p.1
  ·have e:eqL k' p.1=true:=by unfold eqL;simp[h1]
   rw[e,cond_true]
   unfold fi
   by_cases h:k=k'
   ·simp[eqL,h]
   ·have:¬k=p.1:=λe=>h (e.trans h1.symm)
    simp[eqL,h,this]
  ·have e:eqL k' p.1=false:=by unfold eqL;simp[h1]
   rw[e,cond_false]
   unfold fi
   rw[ih]
   by_cases h:k=p.1
   ·simp[eqL,h]
   ·simp[eqL,h]
theorem wW(k k':List Int)(v:Int):∀ x:KMs,cS eqL k (fe eqL k' v x)=if k=k' then v else cS eqL k x
 |[]=>by
  unfold fe cS eqL
  by_cases h:k=k'
  ·simp[h]
  ·simp[h,cS]
 |p::r=>by
  have ih:=wW k k' v r
  unfold fe
  by_cases h1:k'=p.1
  ·have e:eqL k' p.1=true:=by unfold eqL;simp[h1]
   rw[e,cond_true]
   unfold cS
   by_cases h:k=k'
   ·simp[eqL,h]
   ·have:¬k=p.1:=λe=>h (e.trans h1.symm)
    simp[eqL,h,this]
  ·have e:eqL k' p.1=false:=by unfold eqL;simp[h1]
   rw[e,cond_false]
   unfold cS
   rw[ih]
   by_cases h:k=p.1
   ·have:¬k=k':=λe=>h1 (e.symm.trans h)
    simp[eqL,h,this]
    intro e;exact absurd e (λe=>h1 e.symm)
   ·simp[eqL,h]
structure qq(seen:KMs)(items:List (List ItS)):Prop where
 ok:∀ l∈items,OkI l
 has:∀ l,OkI l->(fi eqL (da l) seen=true↔l∈items)
 get:∀ l∈items,cS eqL (da l) seen=(dF l items:Int)
theorem GF:qq [] []:=⟨(λl h=>by cases h),(λl _=>⟨(λh=>by cases h),(λh=>by cases h)⟩),(λl h=>by cases h)⟩
theorem qq.put{seen:KMs}{items:List (List ItS)}(h:qq seen items){l:List ItS}(hl:OkI l)(hn:¬l∈items):qq (fe eqL (da l) (items.length:Int) seen) (items++[l]):=by
 refine⟨λm hm=>?_,λm hm=>?_,λm hm=>?_⟩
 ·rcases ar.1 hm with hm|hm
  ·exact h.ok m hm
  ·rw[aS.1 hm];exact hl
 ·rw[wV,aG,decide_eq_true_eq,h.has m hm,ar,aS]
  constructor
  ·rintro(e|e)
   ·exact .inr (nD hm hl e)
   ·exact .inl e
  ·rintro(e|e)
   ·exact .inr e
   ·exact .inl (by rw[e])
 ·rw[wW]
  rcases ar.1 hm with hm|hm
  ·have:¬da m=da l:=λe=>hn (by rw[<-nD (h.ok m hm) hl e];exact hm)
   rw[if_neg this,h.get m hm,Bd hm]
  ·rw[aS.1 hm,if_pos rfl]
   have key:∀ (r:List (List ItS)),¬l∈r->dF l (r++[l])=r.length:=by
    intro r
    induction r with
    |nil=>intro _;simp[dF]
    |cons x r ih=>
     intro hx
     have h1:¬x=l:=λe=>hx (by rw[e];exact bE)
     show dF l (x::(r++[l]))=_
     rw[dF,if_neg h1,ih (λhm=>hx (bK _ hm)),aO]
   rw[key items hn]
theorem Kg{seen:KMs}{items:List (List ItS)}(h:qq seen items)(hil:items.length<=100000){l:List ItS}(hl:OkI l)(hll:l.length<=100000)(mv:List (List (SyS×Int))):
 ∃ NZ,p45 N0 (l,(seen,((items,mv),())))=some ((((dF l items:Nat):Int),()),(NZ,((kj items l,mv),())))/\qq NZ (kj items l):=by
 have hb:∀ k x,fi (λv6 v7=>decide (v6=v7)) k x=fi eqL k (x:KMs):=λk x=>rfl
 unfold p45
 simp only[aL,cm,Qm hl hll,aC,aO,bJ]
 by_cases hm:l∈items
 ·have hh:=(h.has l hl).2 hm
  refine⟨seen,?_,?_⟩
  ·have hg:cS (λv6 v7=>decide (v6=v7)) (da l) seen=(dF l items:Int):=h.get l hm
   rw[if_neg (by rw[hb,hh];simp),hg]
   unfold kj
   rw[if_pos hm]
  ·unfold kj;rw[if_pos hm];exact h
 ·have hh:fi eqL (da l) seen=false:=by
   cases hq:fi eqL (da l) seen
   ·rfl
   ·exact absurd ((h.has l hl).1 hq) hm
  refine⟨fe eqL (da l) (items.length:Int) seen,?_,?_⟩
  ·rw[if_pos (by rw[hb,hh];rfl),if_pos (by omega),if_pos (by omega),yv hm]
   unfold kj
   rw[if_neg hm]
   rfl
  ·unfold kj;rw[if_neg hm];exact h.put hl hm
end
noncomputable section
theorem Et{A R:Type}{body:A->(A->Option R)->Option R}(I:Nat->A->(Option R->Prop)->Prop)
 (step:∀ m x Q,I m x Q->∀ k,(∀ m' y Q',m' < m->I m' y Q'->Q' (k y))->Q (body x k)):∀ n m x Q,m<n->I m x Q->Q (aF body n x):=by
 intro n
 induction n with
 |zero=>intro m x Q h;omega
 |succ n ih=>
  intro m x Q h hi
  rw[eI]
  exact step m x Q hi _ (λm' y Q' hm hi'=>ih m' y Q' (by omega) hi')
def tgt(g:GrS)(l:List ItS)(s:SyS):List ItS:=gj g (gf (goL g s l))
abbrev StB:=List (List ItS)×(List (List SyS)×List (List Int))
def dr(g:GrS)(l:List ItS)(items:List (List ItS)):Nat->List (List ItS)×List Int
 |0=>(items,[])
 |k+1=>match(bQ g l)[k]? with
  |some s=>(kj (dr g l items k).1 (tgt g l s),(dr g l items k).2++[(dF (tgt g l s) (dr g l items k).1:Int)])
  |none=>dr g l items k
theorem rZ(g:GrS)(l:List ItS)(items:List (List ItS)){k:Nat}(h:k<(bQ g l).length):dr g l items (k+1)=
 (kj (dr g l items k).1 (tgt g l (bQ g l)[k]),(dr g l items k).2++[(dF (tgt g l (bQ g l)[k]) (dr g l items k).1:Int)]):=by
 rw[dr,ah h]
def gO(g:GrS)(i:Nat)(s:StB):StB:=match s.1[i]? with
 |some l=>((dr g l s.1 (bQ g l).length).1,(s.2.1++[bQ g l],s.2.2++[(dr g l s.1 (bQ g l).length).2]))
 |none=>s
def bfs(g:GrS):Nat->Nat->StB->Option StB
 |0,_,_=>none
 |m+1,i,s=>if s.1.length<=i then some s else if 60<s.1.length then none else bfs g m (i+1) (gO g i s)
theorem Be(items:List (List ItS))(l:List ItS):∃ e,kj items l=items++e/\e.length<=1:=by
 unfold kj
 split
 ·exact⟨[],by simp,by simp⟩
 ·exact⟨[l],rfl,by simp⟩
theorem Kh(items:List (List ItS))(l:List ItS):(kj items l)[dF l items]?=some l:=by
 unfold kj
 split
 ·rename_i h
  have hlt:=qp.2 h
  rw[ah hlt,vd hlt]
 ·rename_i h
  rw[yv h,fL (au _)]
  simp
theorem nM(g:GrS)(l:List ItS)(items:List (List ItS)):∀ k,∃ e,(dr g l items k).1=items++e/\e.length<=k
 |0=>⟨[],by simp[dr],by simp⟩
 |k+1=>by
  obtain⟨e,h1,h2⟩:=nM g l items k
  unfold dr
  split
  ·rename_i s hs
   obtain⟨e',h3,h4⟩:=Be (dr g l items k).1 (tgt g l s)
   refine⟨e++e',?_,?_⟩
   ·show kj (dr g l items k).1 _=_
    rw[h3,h1,aM]
   ·rw[ak];omega
  ·exact⟨e,h1,by omega⟩
theorem tc(g:GrS)(l:List ItS)(items:List (List ItS)):∀ k,k<=(bQ g l).length->(dr g l items k).2.length=k/\∀ j s,j<k->(bQ g l)[j]?=some s->∃ t:Nat,(dr g l items k).2[j]?=some (t:Int)/\(dr g l items k).1[t]?=some (tgt g l s)
 |0,_=>⟨rfl,λj s h=>by omega⟩
 |k+1,hk=>by
  obtain⟨h1,h2⟩:=tc g l items k (by omega)
  have hkl:k<(bQ g l).length:=by omega
  rw[rZ g l items hkl]
  refine⟨by simp[h1],λj s hj hs=>?_⟩
  obtain⟨e,h3,_⟩:=Be (dr g l items k).1 (tgt g l (bQ g l)[k])
  by_cases hjk:j=k
  ·subst hjk
   rw[ah hkl]at hs
   cases hs
   refine⟨_,?_,Kh _ _⟩
   rw[fL (by omega),h1]
   simp
  ·obtain⟨t,h4,h5⟩:=h2 j s (by omega) hs
   refine⟨t,?_,?_⟩
   ·rw[dQ (by omega)];exact h4
   ·show(kj (dr g l items k).1 _)[t]?=_
    rw[h3,dQ (bw.1 h5).1];exact h5
def OkL(items:List (List ItS)):Prop:=∀ l∈items,OkI l/\l.length<=273
theorem CI{g:GrS}(hg:Gs g){l:List ItS}(h:OkI l)(s:SyS):OkI (tgt g l s)/\(tgt g l s).length<=273:=by
 have h1:=yr (u0 hg s h)
 exact⟨rV hg h1,lL (iO hg h1) λ_ _ _ ha=>ClG.inU hg h1 ha⟩
theorem Eu{g:GrS}(hg:Gs g){l:List ItS}(hl:l.length<=273)(s:SyS):(gf (goL g s l)).length<=273:=by
 have h1:=AT (goL g s l)
 have h2:=oN g s l
 omega
theorem yw{g:GrS}(hg:Gs g){l:List ItS}(hl:OkI l){items:List (List ItS)}(h:OkL items):∀ k,OkL (dr g l items k).1
 |0=>h
 |k+1=>by
  have ih:=yw hg hl h k
  unfold dr
  split
  ·rename_i s _
   intro m hm
   change m∈kj (dr g l items k).1 (tgt g l s)at hm
   unfold kj at hm
   split at hm
   ·exact ih m hm
   ·rcases ar.1 hm with hm|hm
    ·exact ih m hm
    ·rw[aS.1 hm];exact CI hg hl s
  ·exact ih
structure OkB(g:GrS)(i:Nat)(s:StB):Prop where
 it:OkL s.1
 l1:s.2.1.length=i
 l2:s.2.2.length=i
 le:i<=s.1.length
 mx:s.1.length<=400
 row:∀ j,j<i->∃ l,s.1[j]?=some l/\s.2.1[j]?=some (bQ g l)/\∃ to,s.2.2[j]?=some to/\to.length=(bQ g l).length/\∀ (k:Nat) (y:SyS),(bQ g l)[k]?=some y->∃ t:Nat,to[k]?=some (t:Int)/\s.1[t]?=some (tgt g l y)
theorem OkB.step{g:GrS}(hg:Gs g){i:Nat}{s:StB}(h:OkB g i s)(hi:i<s.1.length)(h60:s.1.length<=60):OkB g (i+1) (gO g i s):=by
 have hs:gO g i s=((dr g s.1[i] s.1 (bQ g s.1[i]).length).1,(s.2.1++[bQ g s.1[i]],s.2.2++[(dr g s.1[i] s.1 (bQ g s.1[i]).length).2])):=by
  unfold gO;rw[ah hi]
 have hl:=h.it _ (bp hi)
 obtain⟨e,he,hel⟩:=nM g s.1[i] s.1 (bQ g s.1[i]).length
 have hsl:=nK g s.1[i]
 have hto:=tc g s.1[i] s.1 (bQ g s.1[i]).length (au _)
 rw[hs]
 have vo:∀ (t:Nat) m,s.1[t]?=some m->(dr g s.1[i] s.1 (bQ g s.1[i]).length).1[t]?=some m:=λt m hm=>by
  rw[he,dQ (bw.1 hm).1];exact hm
 refine⟨yw hg hl.1 h.it _,by simp[h.l1],by simp[h.l2],?_,?_,λj hj=>?_⟩
 ·show i+1<=(dr g s.1[i] s.1 (bQ g s.1[i]).length).1.length
  rw[he,ak];omega
 ·show(dr g s.1[i] s.1 (bQ g s.1[i]).length).1.length<=400
  rw[he,ak];omega
 ·by_cases e':j=i
  ·subst e'
   refine⟨s.1[j],vo _ _ (ah hi),?_,(dr g s.1[j] s.1 (bQ g s.1[j]).length).2,?_,hto.1,λk y hy=>hto.2 k y (bw.1 hy).1 hy⟩
   ·show(s.2.1++[bQ g s.1[j]])[j]?=_
    rw[fL (by rw[h.l1];exact au _),h.l1];simp
   ·show(s.2.2++[_])[j]?=_
    rw[fL (by rw[h.l2];exact au _),h.l2];simp
  ·obtain⟨l,r1,r2,to,r3,r4,r5⟩:=h.row j (by omega)
   refine⟨l,vo _ _ r1,?_,to,?_,r4,λk y hy=>?_⟩
   ·show(s.2.1++[_])[j]?=_
    rw[dQ (by rw[h.l1];omega)];exact r2
   ·show(s.2.2++[_])[j]?=_
    rw[dQ (by rw[h.l2];omega)];exact r3
   ·obtain⟨t,r6,r7⟩:=r5 k y hy
    exact⟨t,r6,vo _ _ r7⟩
def st0(g:GrS):StB:=([gj g (mC g)],([],[]))
theorem CJ{g:GrS}(hg:Gs g):OkB g 0 (st0 g):=by
 have h1:=rX hg
 refine⟨λl hl=>?_,rfl,rfl,aH _,by simp[st0],λj hj=>by omega⟩
 rw[aS.1 hl]
 exact⟨rV hg h1,lL (iO hg h1) λ_ _ _ ha=>ClG.inU hg h1 ha⟩
theorem Ki{g:GrS}(hg:Gs g):∀ (m i:Nat) (s s':StB),OkB g i s->bfs g m i s=some s'->OkB g s'.1.length s'/\∃ e,s'.1=s.1++e
 |0,i,s,s',_,h=>by cases h
 |m+1,i,s,s',hs,h=>by
  rw[bfs]at h
  split at h
  ·rename_i hle
   cases h
   have:=hs.le
   have e:s.1.length=i:=by omega
   rw[e]
   exact⟨hs,[],by simp⟩
  ·rename_i hle
   split at h
   ·cases h
   ·rename_i h60
    obtain⟨r1,e2,r2⟩:=Ki hg m (i+1) (gO g i s) s' (hs.step hg (by omega) (by omega)) h
    refine⟨r1,?_⟩
    have hi:i<s.1.length:=by omega
    have hst:(gO g i s).1=(dr g s.1[i] s.1 (bQ g s.1[i]).length).1:=by unfold gO;rw[ah hi]
    obtain⟨e,he,_⟩:=nM g s.1[i] s.1 (bQ g s.1[i]).length
    exact⟨e++e2,by rw[r2,hst,he,aM]⟩
set_option maxHeartbeats 4000000 in
theorem Nt{g:GrS}(hg:Gs g):∃ out ok,p43 N0 (g,(60,()))=some ((out,(ok,())),())/\(ok=true->bfs g 62 0 (st0 g)=some out):=by
 have h0:=rX hg
 unfold p43
 simp only[aL]
 simp only[cm,decide_eq_true_eq]
 rw[ae (Qf g)]
 simp only
 rw[ae (J7 hg h0 (by simp[mC]))]
 simp only
 refine Et (λm z Q=>∃ (i:Nat) (s:StB),z=((([],([],[])),(s,())),((i:Int),()))/\OkB g i s/\i+m=62/\i<=61/\Q=λr=>∃ out ok,r=some ((out,(ok,())),())/\(ok=true->bfs g m i s=some out)) ?_ N0 62 _ _ (by unfold N0;omega) ⟨0,st0 g,rfl,CJ hg,rfl,by omega,rfl⟩
 rintro m z Q ⟨i,s,rfl,hs,him,Vk,rfl⟩ K hK
 obtain⟨m,rfl⟩:∃ m',m=m' + 1:=⟨m-1,by omega⟩
 have hmx:=hs.mx
 rcases ap i s.1.length with hi|hi
 case inr=>
  have c:¬(i:Int)<(s.1.length:Int):=by omega
  simp only[c,if_false]
  exact⟨s,true,rfl,λ_=>by rw[bfs,if_pos hi]⟩
 have c:(i:Int)<(s.1.length:Int):=by omega
 simp only[c,if_true]
 by_cases h60:60<s.1.length
 ·have c2:(60:Int)<(s.1.length:Int):=by omega
  rw[if_pos c2]
  exact⟨s,false,rfl,λh=>by cases h⟩
 have c2:¬(60:Int)<(s.1.length:Int):=by omega
 rw[if_neg c2]
 have hi1:IntKind.wrap .i64 ((i:Int)+1)=((i+1:Nat):Int):=cH hi (by omega)
 have hl:=hs.it _ (bp hi)
 have hst:gO g i s=((dr g s.1[i] s.1 (bQ g s.1[i]).length).1,(s.2.1++[bQ g s.1[i]],s.2.2++[(dr g s.1[i] s.1 (bQ g s.1[i]).length).2])):=by
  unfold gO;rw[ah hi]
 have R1:bfs g (m+1) i s=bfs g m (i+1) (gO g i s):=by rw[bfs,if_neg (by omega),if_neg h60]
 have wo:=hK m ((([],([],[])),(gO g i s,())),(((i+1:Nat):Int),())) (λr=>∃ out ok,r=some ((out,(ok,())),())/\(ok=true->bfs g m (i+1) (gO g i s)=some out)) (by omega) ⟨i+1,gO g i s,rfl,hs.step hg hi (by omega),by omega,by omega,rfl⟩
 simp only[R1]
 rw[hst]at wo |-
 have Bf:s.1[i]?=some s.1[i]:=ah hi
 have hl1:=hs.l1
 have hl2:=hs.l2
 have Kj:=hs.it
 clear hK R1 hs
 simp only[aX,if_true,aa,Bf,hi1]
 generalize s.1[i]=l at *
 rw[ae (Ql g (by omega:l.length<=100000))]
 simp only
 have hsl:=nK g l
 obtain⟨out,ok,hn1,hn2⟩:=wo
 refine⟨out,ok,Eq.trans ?_ hn1,hn2⟩
 refine bT (λk=>((([],([],[])),(((dr g l s.1 k).1,(s.2.1,s.2.2)),())),((dr g l s.1 k).2,((k:Int),())))) (λ_=>K ((([],([],[])),(((dr g l s.1 (bQ g l).length).1,(s.2.1++[bQ g l],s.2.2++[(dr g l s.1 (bQ g l).length).2])),())),(((i+1:Nat):Int),()))) (bQ g l).length (λk hk L hL=>?_) N0 0 (aH _) (by unfold N0;omega)
 have hto:=tc g l s.1 k hk
 rcases ap k (bQ g l).length with hkl|hkl
 ·have ck:(k:Int)<((bQ g l).length:Int):=by omega
  have hL:=hL hkl
  have hk1:IntKind.wrap .i64 ((k:Int)+1)=((k+1:Nat):Int):=cH hkl (by omega)
  obtain⟨e,he,hel⟩:=nM g l s.1 k
  have hgi:(dr g l s.1 k).1[i]?=some l:=by rw[he,dQ hi];exact Bf
  have hrl:(dr g l s.1 k).1.length<=1000:=by rw[he,ak];omega
  rw[rZ g l s.1 hkl]at hL
  simp only[ck,if_true,aX,aa,hgi,ah hkl]
  generalize (bQ g l)[k]=y at *
  rw[ae (Qh hg y hl.1 (by omega))]
  simp only
  rw[ae (J7 hg (yr (u0 hg y hl.1)) (by have:=Eu hg hl.2 y;omega))]
  simp only
  have htl:=(CI hg hl.1 y).2
  have hro:=yw hg hl.1 Kj k
  have hT:gj g (gf (goL g y l))=tgt g l y:=rfl
  rw[hT]
  have Vl:=hto.1
  generalize tgt g l y=T at *
  generalize (dr g l s.1 k).1=R at *
  generalize (dr g l s.1 k).2=TO at *
  have hfl:=Es T R
  refine bT (λn=>((([],([],[])),((R,(s.2.1,s.2.2)),(TO,()))),((if dF T R<n then(dF T R:Int)else -1),((n:Int),())))) (λ_=>K ((([],([],[])),(((dr g l s.1 (bQ g l).length).1,(s.2.1++[bQ g l],s.2.2++[(dr g l s.1 (bQ g l).length).2])),())),(((i+1:Nat):Int),()))) (if dF T R<R.length then dF T R+1 else R.length) (λj hj M hM=>?_) N0 0 (aH _) (by split <;> (unfold N0;omega))
  rcases ap j (if dF T R<R.length then dF T R+1 else R.length)with hjl|hjl
  ·have hM:=hM hjl
   have hjR:j<R.length:=by
    split at hjl <;> omega
   have hjf:¬dF T R<j:=by
    split at hjl <;> omega
   have cj:(j:Int)<(R.length:Int):=by omega
   have hj1:IntKind.wrap .i64 ((j:Int)+1)=((j+1:Nat):Int):=cH hjR (by omega)
   have hRj:=(hro _ (bp hjR)).2
   simp only[cj,if_true,hjf,if_false,show(-1:Int)<0 by omega,decide_true,aX,aa,ah hjR,hj1]
   rw[ae (CB (by omega:R[j].length<=1000000))]
   simp only[decide_eq_true_eq]
   rw[<-hM]
   by_cases he:R[j]=T
   ·have hf:dF T R=j:=by
     rcases ap j (dF T R)with h|h
     ·exact absurd he (ve j hjR h)
     ·omega
    rw[if_pos he,if_pos (by omega),hf]
   ·have hf:¬dF T R<j+1:=λh=>by
     have e2:dF T R=j:=by omega
     have:=vd (l:=T) (r:=R) (by omega)
     simp only[e2]at this
     exact he this
    rw[if_neg he,if_neg hf]
  ·have hje:j=(if dF T R<R.length then dF T R+1 else R.length):=by omega
   by_cases hin:dF T R<R.length
   ·rw[if_pos hin]at hje
    have lv:=qp.1 hin
    have BE:kj R T=R:=by unfold kj;rw[if_pos lv]
    rw[BE]at hL
    have hf:dF T R<j:=by omega
    have Gx:¬((dF T R:Nat):Int)<0:=by omega
    simp only[hf,if_true,Gx,decide_false,av,if_false,aO,bJ,hk1]
    have xR:(if(TO.length+(0+1))*8<=140737488355328 then(if TO.length+(0+1)<=9223372036854775807 then L ((([],([],[])),((R,(s.2.1,s.2.2)),())),(TO++[((dF T R:Nat):Int)],(((k+1:Nat):Int),())))else none)else none)=K ((([],([],[])),(((dr g l s.1 (bQ g l).length).1,(s.2.1++[bQ g l],s.2.2++[(dr g l s.1 (bQ g l).length).2])),())),(((i+1:Nat):Int),())):=by
     rw[if_pos (by omega),if_pos (by omega)];exact hL
    split
    ·exact xR
    ·exact xR
   ·rw[if_neg hin]at hje
    have hfe:dF T R=R.length:=by omega
    have lv:¬T∈R:=λh=>hin (qp.2 h)
    have BE:kj R T=R++[T]:=by unfold kj;rw[if_neg lv]
    rw[BE,hfe]at hL
    have hf:¬dF T R<j:=by omega
    have cj:¬(j:Int)<(R.length:Int):=by omega
    simp only[cj,hf,if_false,av,show(-1:Int)<0 by omega,if_true,aO,bJ,hk1]
    rw[if_pos (by omega),if_pos (by omega),if_pos (by omega),if_pos (by omega)]
    exact hL
 ·have ck:¬(k:Int)<((bQ g l).length:Int):=by omega
  have e:k=(bQ g l).length:=by omega
  subst e
  simp only[ck,if_false,aO,bJ]
  rw[if_pos (by omega),if_pos (by omega),if_pos (by omega),if_pos (by omega)]
end
noncomputable section
def mvR(Kk:List (List SyS))(tos:List (List Int)):List (List (SyS×Int)):=List.zipWith (λa b=>a.zip b) Kk tos
theorem Kl{Kk:List (List SyS)}{tos:List (List Int)}(h:Kk.length=tos.length)(a:List SyS)(b:List Int):mvR (Kk++[a]) (tos++[b])=mvR Kk tos++[a.zip b]:=by
 unfold mvR
 rw[List.zipWith_append h]
 rfl
theorem Km{a:List SyS}{b:List Int}(h:a.length=b.length)(x:SyS)(y:Int):(a++[x]).zip (b++[y])=a.zip b++[(x,y)]:=by
 rw[List.zip_append h]
 rfl
theorem CK{g:GrS}(hg:Gs g){l:List ItS}(h:OkI l):(gj g l).length<=273:=lL (iO hg h) λ_ _ _ ha=>ClG.inU hg h ha
set_option maxHeartbeats 4000000 in
theorem Qn{g:GrS}(hg:Gs g){a b:Int}(h31:p31 N0 (g,())=some (((0,(a,b)),()),())){s':StB}(hb:bfs g 62 0 (st0 g)=some s'):
 p18 N0 (g,())=some (((s'.1,mvR s'.2.1 s'.2.2),(0,())),()):=by
 have h0:=rX hg
 have h0l:(mC g).length<=100000:=by simp[mC]
 unfold p18
 simp only
 rw[ae h31]
 simp only
 rw[decide_true,aB,cond_false,ae (P5 hg)]
 simp only
 rw[ae (Qe g)]
 simp only
 rw[ae (Kc hg h0 h0l)]
 simp only
 obtain⟨R2,h45,Ko⟩:=Kg GF (by simp) (rV hg h0) (by have:=CK hg h0;omega) []
 rw[ae h45]
 simp only[aL]
 simp only[cm,decide_eq_true_eq]
 have R3:kj [] (gj g (mC g))=[gj g (mC g)]:=by unfold kj;rw[if_neg (by simp)];rfl
 rw[R3]at Ko |-
 refine aZ (λm z r=>∃ (i:Nat) (s:StB) (seen:KMs),z=((([],[]),((s.1,mvR s.2.1 s.2.2),(seen,()))),((i:Int),()))/\OkB g i s/\qq seen s.1/\bfs g m i s=some s'/\r=some (((s'.1,mvR s'.2.1 s'.2.2),(0,())),())) ?_ N0 62 _ _ (by unfold N0;omega) ⟨0,st0 g,R2,rfl,CJ hg,Ko,hb,rfl⟩
 rintro m z r ⟨i,s,seen,rfl,hs,R4,hbf,rfl⟩ K hK
 cases m with
 |zero=>cases hbf
 |succ m=>
 have hmx:=hs.mx
 have hle:=hs.le
 rw[bfs]at hbf
 rcases ap i s.1.length with hi|hi
 case inr=>
  have c:¬(i:Int)<(s.1.length:Int):=by omega
  rw[if_pos hi]at hbf
  cases hbf
  simp only[c,if_false]
 rw[if_neg (by omega)]at hbf
 by_cases h60:60<s.1.length
 ·rw[if_pos h60]at hbf;cases hbf
 rw[if_neg h60]at hbf
 have c:(i:Int)<(s.1.length:Int):=by omega
 have c2:¬(2000:Int)<(s.1.length:Int):=by omega
 have hi1:IntKind.wrap .i64 ((i:Int)+1)=((i+1:Nat):Int):=cH hi (by omega)
 have hl:=hs.it _ (bp hi)
 have hst:gO g i s=((dr g s.1[i] s.1 (bQ g s.1[i]).length).1,(s.2.1++[bQ g s.1[i]],s.2.2++[(dr g s.1[i] s.1 (bQ g s.1[i]).length).2])):=by
  unfold gO;rw[ah hi]
 have Kp:=hs.step hg hi (by omega)
 have Bf:s.1[i]?=some s.1[i]:=ah hi
 have hl1:=hs.l1
 have hl2:=hs.l2
 have Kj:=hs.it
 simp only[c,if_true,c2,if_false,aX,aa,Bf,hi1]
 have hK2:∀ vf,qq vf (gO g i s).1->K ((([],[]),(((gO g i s).1,mvR (gO g i s).2.1 (gO g i s).2.2),(vf,()))),(((i+1:Nat):Int),()))=some (((s'.1,mvR s'.2.1 s'.2.2),(0,())),()):=λvf h2=>
  hK m _ _ (by omega) ⟨i+1,gO g i s,vf,rfl,Kp,h2,hbf,rfl⟩
 rw[hst,Kl (by rw[hl1,hl2])]at hK2
 clear hK Kp hbf hst
 generalize s.1[i]=l at *
 rw[ae (Qk g (by omega:l.length<=100000))]
 simp only
 have hsl:=nK g l
 refine aZ (λm z r=>∃ (k:Nat) (seen:KMs),z=((([],[]),(((dr g l s.1 k).1,mvR s.2.1 s.2.2),(seen,()))),((((bQ g l).take k).zip (dr g l s.1 k).2),((k:Int),())))/\k<=(bQ g l).length/\qq seen (dr g l s.1 k).1/\m=(bQ g l).length-k/\r=some (((s'.1,mvR s'.2.1 s'.2.2),(0,())),())) ?_ N0 (bQ g l).length _ _ (by unfold N0;omega) ⟨0,seen,rfl,aH _,R4,rfl,rfl⟩
 rintro m z r ⟨k,vf,rfl,hk,hse,rfl,rfl⟩ L hL
 have hto:=tc g l s.1 k hk
 have Vm:=hto.1
 rcases ap k (bQ g l).length with hkl|hkl
 ·have ck:(k:Int)<((bQ g l).length:Int):=by omega
  have hk1:IntKind.wrap .i64 ((k:Int)+1)=((k+1:Nat):Int):=cH hkl (by omega)
  obtain⟨e,he,hel⟩:=nM g l s.1 k
  have hgi:(dr g l s.1 k).1[i]?=some l:=by rw[he,dQ hi];exact Bf
  have hrl:(dr g l s.1 k).1.length<=1000:=by rw[he,ak];omega
  have hzl:(((bQ g l).take k).zip (dr g l s.1 k).2).length<=1000:=by rw[qT,aK];omega
  have hL2:=hL ((bQ g l).length-(k+1))
  have hrs:=rZ g l s.1 hkl
  have hzs:((bQ g l).take (k+1)).zip (dr g l s.1 (k+1)).2=((bQ g l).take k).zip (dr g l s.1 k).2++[((bQ g l)[k],(dF (tgt g l (bQ g l)[k]) (dr g l s.1 k).1:Int))]:=by
   rw[hrs,dB _ _ hkl]
   exact Km (by rw[aK];omega) _ _
  simp only[ck,if_true,aX,aa,hgi,ah hkl,hk1,aO,bJ]
  have hy1:=yr (u0 hg (bQ g l)[k] hl.1)
  have hy2:=Eu hg hl.2 (bQ g l)[k]
  rw[ae (Qg hg (bQ g l)[k] hl.1 (by omega))]
  simp only
  rw[ae (Kc hg hy1 (by omega))]
  simp only
  have htg:=CI hg hl.1 (bQ g l)[k]
  obtain⟨R5,e45,UU⟩:=Kg hse (by omega) htg.1 (by omega) (mvR s.2.1 s.2.2)
  have UW:p45 N0 (gj g (gf (goL g (bQ g l)[k] l)),(vf,(((dr g l s.1 k).1,mvR s.2.1 s.2.2),())))=_:=e45
  rw[ae UW]
  simp only
  rw[if_pos (by omega),if_pos (by omega)]
  refine hL2 _ _ (by omega) ⟨k+1,R5,?_,by omega,?_,rfl,rfl⟩
  ·rw[hzs,hrs]
  ·rw[hrs];exact UU
 ·have ck:¬(k:Int)<((bQ g l).length:Int):=by omega
  have e:k=(bQ g l).length:=by omega
  subst e
  have hml:(mvR s.2.1 s.2.2).length<=1000:=by unfold mvR;rw[List.length_zipWith];omega
  rw[di]
  simp only[ck,if_false,aO,bJ]
  rw[if_pos (by omega),if_pos (by omega)]
  exact hK2 vf hse
end
noncomputable section
theorem R6{g:Grm}(h:WfT y26 g):GOk g:=by
 obtain⟨⟨h1,h1'⟩,⟨h2,h2'⟩,⟨h3,h3'⟩,⟨h4,h4'⟩,h5⟩:=h
 exact⟨h4,λl hl=>(h4' l hl).2.1,h3,λp hp=>(h3' p hp).2.2.1.1,h1,h2⟩
theorem R7{g:Grm}(h:WfT y26 g)(hf:few g=true):sS g:=by
 obtain⟨⟨h1,h1'⟩,⟨h2,h2'⟩,⟨h3,h3'⟩,⟨h4,h4'⟩,h5⟩:=h
 unfold few wR at hf
 simp only[ag,decide_eq_true_eq,cO]at hf
 obtain⟨⟨f1,f2⟩,f3,f4,f5,f6,f7,f8⟩:=hf
 have p7:∀ p∈g.2.2.1,p.2.2.1.length<=20/\p.2.2.2.2.2.length<=20/\p.2.1.length<=100:=λp hp=>by
  have:=f7 p hp
  unfold uL at this
  simpa using this
 refine⟨by omega,λr hr=>?_,by omega,λs hs=>⟨(h2' s hs).2,(h2' s hs).1⟩,by omega,λp hp=>⟨(h3' p hp).2.1.2,(h3' p hp).2.1.1⟩,λp hp=>by have:=(p7 p hp).1;omega,λp hp=>by have:=(p7 p hp).2.1;omega,by omega,λl hl=>by have:=f8 l hl;omega⟩
 have:=h1' r hr
 exact⟨this.1.2,this.1.1,this.2.2.2,this.2.2.1⟩
theorem UX{g:Grm}(h:WfT y26 g)(hf:few g=true)(h12:g.2.2.1.length<=12):Gs g:=by
 obtain⟨⟨h1,h1'⟩,⟨h2,h2'⟩,⟨h3,h3'⟩,⟨h4,h4'⟩,h5⟩:=h
 unfold few wR at hf
 simp only[ag,decide_eq_true_eq,cO]at hf
 obtain⟨⟨f1,f2⟩,f3,f4,f5,f6,f7,f8⟩:=hf
 refine⟨f3,h12,λp hp=>?_,λp hp y hy=>?_,h5⟩
 ·have:=f7 p hp
  unfold uL at this
  simp at this
  omega
 ·exact((h3' p hp).2.2.1.2 y hy).2
theorem Nu{g:Grm}(h:WfT y26 g):∃ b,p42 N0 (g,())=some ((b,()),())/\(b=true->few g=true/\g.2.2.1.length<=12/\(∀ r∈g.1,r.2.2.length<=12)/\(ie g).1=0):=by
 have hgk:=R6 h
 have hrs:=hgk.rs
 unfold p42
 simp only[aL]
 simp only[cm,decide_eq_true_eq]
 rw[ae (RN g hgk)]
 simp only
 cases hf:few g
 ·exact⟨false,rfl,λh=>by cases h⟩
 simp only[aB,av,if_false,decide_eq_true_eq]
 by_cases hp:(12:Int)<(g.2.2.1.length:Int)
 ·rw[if_pos hp]
  exact⟨false,rfl,λh=>by cases h⟩
 rw[if_neg hp]
 have ok:=R7 h hf
 refine Et (λm z Q=>∃ j:Nat,z=((),((j:Int),()))/\j<=g.1.length/\m=g.1.length-j/\(∀ k (h:k<g.1.length),k<j->g.1[k].2.2.length<=12)/\Q=λr=>∃ b,r=some ((b,()),())/\(b=true->True/\g.2.2.1.length<=12/\(∀ r∈g.1,r.2.2.length<=12)/\(ie g).1=0)) ?_ N0 g.1.length _ _ (by have:=jY hrs;omega) ⟨0,rfl,aH _,rfl,λk _ h=>by omega,rfl⟩
 rintro m z Q ⟨j,rfl,hj,rfl,fT,rfl⟩ K hK
 rcases ap j g.1.length with hjl|hjl
 ·have cj:(j:Int)<(g.1.length:Int):=by omega
  simp only[cj,if_true,aX,aa,ah hjl,bo hjl hrs]
  by_cases hr:(12:Int)<(g.1[j].2.2.length:Int)
  ·rw[if_pos hr]
   exact⟨false,rfl,λh=>by cases h⟩
  ·rw[if_neg hr]
   refine hK (g.1.length-(j+1)) _ _ (by omega) ⟨j+1,rfl,hjl,rfl,λk hk hkj=>?_,rfl⟩
   by_cases e:k=j
   ·subst e;omega
   ·exact fT k hk (by omega)
 ·have cj:¬(j:Int)<(g.1.length:Int):=by omega
  simp only[cj,if_false]
  rw[ae (Ju ok)]
  simp only
  refine⟨_,rfl,λhb=>⟨trivial,by omega,λr hr=>?_,by simpa using hb⟩⟩
  obtain⟨k,hk,rfl⟩:=fo.1 hr
  exact fT k hk (by omega)
structure Trd(g:Grm)(w:StB):Prop where
 gs:Gs g
 ok:sS g
 r12:∀ r∈g.1,r.2.2.length<=12
 e0:(ie g).1=0
 bf:bfs g 62 0 (st0 g)=some w
theorem Nv{g:Grm}(h:WfT y26 g):∃ w b,p17 N0 (g,())=some ((w,(b,())),())/\(b=true->Trd g w):=by
 obtain⟨b,h1,h2⟩:=Nu h
 unfold p17
 simp only
 rw[ae h1]
 simp only
 cases b
 ·exact⟨_,false,rfl,λh=>by cases h⟩
 ·obtain⟨f1,f2,f3,f4⟩:=h2 rfl
  have hg:=UX h f1 f2
  obtain⟨out,ok,e1,e2⟩:=Nt hg
  rw[aB,cond_false,ae e1]
  exact⟨out,ok,rfl,λhb=>⟨hg,R7 h f1,f3,f4,e2 hb⟩⟩
theorem Trd.p31{g:Grm}{w:StB}(t:Trd g w):∃ a b,p31 N0 (g,())=some (((0,(a,b)),()),()):=by
 have:=Jt t.ok t.r12
 rw[show ie g=((ie g).1,((ie g).2.1,(ie g).2.2))from rfl,t.e0]at this
 exact⟨_,_,this⟩
theorem Trd.p18{g:Grm}{w:StB}(t:Trd g w):p18 N0 (g,())=some (((w.1,mvR w.2.1 w.2.2),(0,())),()):=by
 obtain⟨a,b,h⟩:=t.p31
 exact Qn t.gs h t.bf
theorem Trd.okB{g:Grm}{w:StB}(t:Trd g w):OkB g w.1.length w:=(Ki t.gs _ _ _ _ (CJ t.gs) t.bf).1
theorem Qo{l:List ItS}(hl:l.length<=1000000):p21 N0 (l,())=some ((l,()),()):=by
 unfold p21
 simp only[aL]
 simp only[cm,decide_eq_true_eq]
 refine bT (λj=>((),(l.take j,((j:Int),())))) (λ_=>some ((l,()),())) l.length (λj hj K hK=>?_) N0 0 (aH _) (by unfold N0;omega)
 rcases ap j l.length with h|h
 ·have c:(j:Int)<(l.length:Int):=by omega
  have hK:=hK h
  have hj1:IntKind.wrap .i64 ((j:Int)+1)=((j+1:Nat):Int):=cH h hl
  have hlt:(l.take j).length=j:=by rw[aK];omega
  rw[dB _ _ h]at hK
  simp only[c,if_true,aX,aa,ah h,hj1,aO,bJ]
  rw[hlt,if_pos (by omega),if_pos (by omega)]
  exact hK
 ·have c:¬(j:Int)<(l.length:Int):=by omega
  simp only[c,if_false]
  rw[bZ h]
theorem Qp(s:List (List ItS)×List (List (SyS×Int))):p19 N0 (s,())=some ((((s.1.length:Nat):Int),()),()):=rfl
theorem Nw{g:Grm}{w:StB}(hk:OkB g w.1.length w):(mvR w.2.1 w.2.2).length=w.1.length:=by
 unfold mvR;rw[List.length_zipWith,hk.l1,hk.l2,Nat.min_self]
theorem Ny{g:Grm}{w:StB}(hk:OkB g w.1.length w){i:Nat}(hi:i<w.1.length):∃ (l:List ItS) (sy:List SyS) (to:List Int),w.1[i]?=some l/\w.2.1[i]?=some sy/\w.2.2[i]?=some to/\(mvR w.2.1 w.2.2)[i]?=some (sy.zip to)/\to.length=sy.length/\sy=bQ g l/\l.length<=273:=by
 obtain⟨l,r1,r2,to,r3,r4,_⟩:=hk.row i hi
 refine⟨l,_,to,r1,r2,r3,?_,r4,rfl,(hk.it l (dg r1)).2⟩
 unfold mvR
 rw[List.getElem?_zipWith,r2,r3]
theorem Nz{sy:List SyS}{to:List Int}(h:to.length=sy.length){k:Nat}(hk:k<sy.length):(sy.zip to)[k]?=some (sy[k],to[k]):=by
 rw[ah (by rw[qT];omega),List.getElem_zip]
set_option maxHeartbeats 2000000 in
theorem NA{g:Grm}(h:WfT y26 g):p4 N0 (g,())=some ((true,()),()):=by
 obtain⟨w,b,h17,ht⟩:=Nv h
 unfold p4
 simp only
 rw[ae Jw]
 simp only
 rw[aB,cond_false,ae h17]
 simp only
 cases b
 ·rfl
 rw[aB,cond_false]
 have t:=ht rfl
 have hk:=t.okB
 have hml:=Nw hk
 have hmx:=hk.mx
 rw[ae t.p18]
 simp only[aL]
 simp only[cm,decide_eq_true_eq]
 rw[decide_true,aB,if_neg ix,ae (Qp _)]
 simp only[hml,decide_true,aB,av,if_false]
 refine bT (λi=>((),((i:Int),()))) (λ_=>some ((true,()),())) w.1.length (λi hi K hK=>?_) N0 0 (aH _) (by unfold N0;omega)
 rcases ap i w.1.length with hil|hil
 case inr=>
  have c:¬(i:Int)<(w.1.length:Int):=by omega
  simp only[c,if_false]
 have c:(i:Int)<(w.1.length:Int):=by omega
 have hK:=hK hil
 have hi1:IntKind.wrap .i64 ((i:Int)+1)=((i+1:Nat):Int):=cH hil (by omega)
 obtain⟨l,sy,to,g1,g2,g3,g4,g5,g6,g7⟩:=Ny hk hil
 have hsl:=nK g l
 rw[<-g6]at hsl
 simp only[c,if_true,aX,aa,g1]
 rw[ae (Qo (by omega:l.length<=1000000))]
 simp only
 rw[ae (CB (by omega:l.length<=1000000))]
 have hzl:(sy.zip to).length=sy.length:=by rw[qT];omega
 simp only[decide_true,aB,av,if_false,g4,g2,g3,hzl,hi1]
 refine bT (λk=>((),((k:Int),()))) (λ_=>some ((true,()),())) sy.length (λk hk' L hL=>?_) N0 0 (aH _) (by unfold N0;omega)
 rcases ap k sy.length with hkl|hkl
 ·have ck:(k:Int)<(sy.length:Int):=by omega
  have hk1:IntKind.wrap .i64 ((k:Int)+1)=((k+1:Nat):Int):=cH hkl (by omega)
  have hkt:k<to.length:=by omega
  simp only[ck,if_true,aX,aa,Nz g5 hkl,ah hkl,ah hkt,beq_self_eq_true,decide_true,av,if_false,aB,hk1]
  exact hL hkl
 ·have ck:¬(k:Int)<(sy.length:Int):=by omega
  simp only[ck,if_false]
  exact hK
end
end Go.Proofs.YthalkfdkbalpmaaGreat.Rf.Rk
namespace Go.Proofs.YthalkfdkbalpmaaGreat
open Go Go.ChangeShapes Go.WideShapes Go.ChangeAt Go.RowKit Go.Proofs.YthalkfdkbalpmaaGreat.Rf
noncomputable section
theorem yx:ownKnob Tryz.prog.godebug=none:=by kernel_rfl
theorem vH:laidOutB Tryz.prog=true:=by kernel_rfl
set_option maxRecDepth 100000 in
theorem sU(os:Os)(started:os.Started)(H:Type)(enc:TypeId×Value->H):
 ReturnsInHanded {} Tryz.checked os 4 .any (Rows.statesOfSpec.pre6 enc Tryz.prog Tryz.f4 Rows.statesOfRow.domain false) (Rows.statesOfSpec.post enc Tryz.prog Tryz.f4 false true false false):=by
 refine returnsInHanded_of_change (C:=Tryz.checked) yx started (by kernel_rfl) Tryz.func4
  (ChangeSpec.witness6 (enc:=enc) (C:=Tryz.checked) false ⟨#[],#[.agg #[.slice none 0 0,.slice none 0 0,.slice none 0 0,.slice none 0 0,.int .i64 0]],[]⟩ 8 (by kernel_rfl) (by kernel_rfl) (by kernel_rfl) (by kernel_rfl)) ?_
 intro W base args ds gs before R8 hW0 Vn _
 have hW:DataW.Whole enc Tryz.prog Tryz.f4.params.toList Rows.statesOfSpec.vars false W args.toList ds gs before:=hW0
 have Oy:∀ (j:Nat) t v,Tryz.f4.params.toList[j]?=some t->args[j]?=some v->Value.okWide Tryz.prog W .any base t v:=λj t v h1 h2=>R8 j t v (by simpa using h1) h2
 have hA:∃ p,DataW.TrodAll enc Tryz.prog W 0 (λ_=>true) true Tryz.f4.params.toList args.toList ds p:=by
  obtain⟨p,q,hA0,_⟩:=hW
  exact⟨p,hA0⟩
 obtain⟨p,hA⟩:=hA
 refine(FK H8 (ok4 N0) (λx hx=>by obtain⟨g,u⟩:=x;exact Rk.NA hx.1) (n:=12) (ts:=Tryz.f4.params.toList) (by rw[Tryz.params4];rfl) hA Oy (λp hp=>by cases hp)).mono λe W' he=>?_
 obtain⟨he,hb⟩:=he
 exact⟨.bool true,he,H6 vH (s:=Rows.statesOfSpec) rfl ⟨4,by kernel_rfl,Tryz.underlying4⟩ (λds hd=>by rw[Tryz.params4]at hd;match ds,hd with|[_],_=>rfl) (by rw[Tryz.params4];kernel_rfl) hW hb⟩
theorem statesOf_holds:Rows.StatesOfSaid:=
 OpenClaim.holds_of_wide 4 Tryz.f4 rfl rfl rfl rfl rfl rfl rfl ⟨rfl,rfl,rfl,rfl,rfl⟩ rfl rfl rfl rfl rfl (by kernel_rfl) Tryz.func4 (by kernel_rfl)
  (of_decide_eq_true (by kernel_rfl)) (by unfold Func.isWrapper;first|(rw[if_pos (by decide +kernel)];kernel_rfl)|(rw[if_neg (by decide +kernel)];exact⟨rfl,rfl⟩))
  (λos started H enc _=>sU os started H enc)
end
end Go.Proofs.YthalkfdkbalpmaaGreat
