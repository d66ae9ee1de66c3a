/- A part of a proof that a given statement (the one of this claim: the name of its theorem ends in _holds) is true of the program, with no condition ahead of it. Printed by wip/dev/pack2.py out of the texts in wip. -/
import Derived.Test.YthalkfdkbalpmaaGreatU5
set_option linter.unusedVariables false
set_option linter.unusedSimpArgs false
namespace Go.Proofs.YthalkfdkbalpmaaGreat.Rf.Rk
open Go Go.Proofs.YthalkfdkbalpmaaGreat.Rf
noncomputable section
abbrev Ato:=Int->Int->Option Nat->Prop
section
variable (st:Int->Int->Int->Prop) (fs:Int->Int->Nat->Prop) (nl:Int->Int->Prop)
def Stp(A:Ato):Ato:=λq d' o=>d'=0/\match o with
 |none=>∃ p d,A p d none/\st p d q
 |some b=>∃ p d,st p d q/\(A p d none/\fs p d b\/A p d (some b)/\nl p d)
inductive Cl(B:Ato):Int->Int->Option Nat->Prop
 |base {p d o}:B p d o->Cl B p d o
 |there {p d q}:Cl B p d none->st p d q->Cl B q 0 none
 |first {p d q b}:Cl B p d none->st p d q->fs p d b->Cl B q 0 (some b)
 |look {p d q b}:Cl B p d (some b)->st p d q->nl p d->Cl B q 0 (some b)
variable {st fs nl}
theorem Cl.stp{B:Ato}{p d:Int}{o:Option Nat}(h:Stp st fs nl (Cl st fs nl B) p d o):Cl st fs nl B p d o:=by
 obtain⟨rfl,h⟩:=h
 cases o with
 |none=>obtain⟨p',d',h1,h2⟩:=h;exact .there h1 h2
 |some b=>
  obtain⟨p',d',h1,h2|h2⟩:=h
  ·exact .first h2.1 h1 h2.2
  ·exact .look h2.1 h1 h2.2
theorem Cl.least{B A:Ato}(hB:∀ p d o,B p d o->A p d o)(hA:∀ p d o,Stp st fs nl A p d o->A p d o){p d:Int}{o:Option Nat}(h:Cl st fs nl B p d o):A p d o:=by
 induction h with
 |base h=>exact hB _ _ _ h
 |there _ h2 ih=>exact hA _ _ _ ⟨rfl,_,_,ih,h2⟩
 |first _ h2 h3 ih=>exact hA _ _ _ ⟨rfl,_,_,h2,.inl ⟨ih,h3⟩⟩
 |look _ h2 h3 ih=>exact hA _ _ _ ⟨rfl,_,_,h2,.inr ⟨ih,h3⟩⟩
theorem Stp.mono{A A':Ato}(h:∀ p d o,A p d o->A' p d o){p d:Int}{o:Option Nat}(k:Stp st fs nl A p d o):Stp st fs nl A' p d o:=by
 obtain⟨rfl,k⟩:=k
 refine⟨rfl,?_⟩
 cases o with
 |none=>obtain⟨p',d',h1,h2⟩:=k;exact⟨p',d',h _ _ _ h1,h2⟩
 |some b=>
  obtain⟨p',d',h1,h2|h2⟩:=k
  ·exact⟨p',d',h1,.inl ⟨h _ _ _ h2.1,h2.2⟩⟩
  ·exact⟨p',d',h1,.inr ⟨h _ _ _ h2.1,h2.2⟩⟩
theorem Cl.mono{B B':Ato}(h:∀ p d o,B p d o->B' p d o){p d:Int}{o:Option Nat}(k:Cl st fs nl B p d o):Cl st fs nl B' p d o:=
 Cl.least (λp d o hb=>.base (h p d o hb)) (λp d o hs=>Cl.stp hs) k
end
def ij{α:Type}(U:List α)(P:α->Prop):Nat:=by
 classical exact U.countP λu=>!decide (P u)
theorem qt{α:Type}{U:List α}{P Q:α->Prop}(h:∀ u∈U,P u->Q u):ij U Q<=ij U P:=by
 classical
 unfold ij
 refine List.countP_mono_left λu hu hq=>?_
 simp only[bz,decide_eq_false_iff_not]at *
 exact λhp=>hq (h u hu hp)
theorem jg{α:Type}(U:List α)(P:α->Prop):ij U P<=U.length:=by
 unfold ij
 exact List.countP_le_length
theorem oN{α:Type}{U:List α}{P Q:α->Prop}(h:∀ u∈U,P u->Q u){a:α}(ha:a∈U)(hp:¬P a)(hq:Q a):ij U Q<ij U P:=by
 classical
 induction U with
 |nil=>cases ha
 |cons b U ih=>
  have hle:ij U Q<=ij U P:=qt λu hu=>h u (bE _ hu)
  have e:∀ R:α->Prop,ij (b::U) R=ij U R+(if R b then 0 else 1):=λR=>by
   unfold ij
   rw[qZ]
   by_cases hr:R b <;> simp[hr]
  rw[e,e]
  rcases az.1 ha with rfl|ha
  ·rw[if_pos hq,if_neg hp];omega
  ·have:=ih (λu hu=>h u (bE _ hu)) ha
   by_cases hb:P b
   ·rw[if_pos hb,if_pos (h b bx hb)];omega
   ·rw[if_neg hb]
    split <;> omega
structure InU(k:Nat)(p d:Int)(o:Option Nat):Prop where
 p0:0<=p
 p1:p<=k
 d0:0<=d
 d1:d<=20
 b:∀ b,o=some b->b<64
def vX(k:Nat):List (Nat×Nat×Nat):=(List.range (k+1)).flatMap λp=>(List.range 21).flatMap λd=>(List.range 65).map λb=>(p,d,b)
def ofB:Nat->Option Nat
 |0=>none
 |b+1=>some b
def onU(A:Ato)(u:Nat×Nat×Nat):Prop:=A u.1 u.2.1 (ofB u.2.2)
theorem J0{k:Nat}{p d:Int}{o:Option Nat}(h:InU k p d o):∃ u∈vX k,(u.1:Int)=p/\(u.2.1:Int)=d/\ofB u.2.2=o:=by
 have h1:=h.p0
 have h2:=h.p1
 have h3:=h.d0
 have h4:=h.d1
 refine⟨(p.toNat,d.toNat,match o with|none=>0|some b=>b+1),?_,by show(p.toNat:Int)=p;omega,by show(d.toNat:Int)=d;omega,by cases o <;> rfl⟩
 unfold vX
 refine dV.2 ⟨p.toNat,cE.2 (by omega),dV.2 ⟨d.toNat,cE.2 (by omega),gN.2 ⟨_,cE.2 ?_,rfl⟩⟩⟩
 cases o with
 |none=>simp
 |some b=>have:=h.b b rfl;show b+1<65;omega
theorem J1(k:Nat):(vX k).length=(k+1)*1365:=by
 unfold vX
 simp[List.length_flatMap,oe]
theorem J2{k:Nat}{A A':Ato}{l l':List ItS}(h:Can A l)(h':Can A' l')(hs:∀ p d o,A p d o->A' p d o)(hU:∀ p d o,A' p d o->InU k p d o)(hne:l≠l'):ij (vX k) (onU A')<ij (vX k) (onU A):=by
 have:∃ p d o,A' p d o/\¬A p d o:=by
  apply jC
  intro hn
  refine hne ((h.congr λp d o=>⟨hs p d o,λha=>?_⟩).Bj h')
  apply jC
  intro hna
  exact hn ⟨p,d,o,ha,hna⟩
 obtain⟨p,d,o,h1,h2⟩:=this
 obtain⟨u,hu,rfl,rfl,rfl⟩:=J0 (hU _ _ _ h1)
 exact oN (λv _ hv=>hs _ _ _ hv) hu h2 h1
theorem NI{k:Nat}{A:Ato}{l:List ItS}(h:Can A l)(hU:∀ p d o,A p d o->InU k p d o):l.length<=(k+1)*21:=by
 have hp:∀ x∈l,0<=x.1/\x.1<=k/\0<=x.2.1/\x.2.1<=20:=λx hx=>by
  have:=hU _ _ _ ((h.at' x.1 x.2.1 none).1 ⟨x,hx,rfl,rfl⟩)
  exact⟨this.p0,this.p1,this.d0,this.d1⟩
 have key:∀ (l:List ItS),l.Pairwise ltK->(∀ x∈l,0<=x.1/\x.1<=k/\0<=x.2.1/\x.2.1<=20)->∀ n:Nat,(∀ x∈l,(n:Int)<=x.1*21+x.2.1)->l.length+n<=(k+1)*21\/l=[]:=by
  intro l
  induction l with
  |nil=>intro _ _ n _;exact .inr rfl
  |cons x l ih=>
   intro hs hp n hn
   obtain⟨s1,s2⟩:=dH.1 hs
   have hx:=hp x bx
   have hnx:=hn x bx
   refine .inl ?_
   rcases ih s2 (λy hy=>hp y (bE _ hy)) (n+1) (λy hy=>by
    have h1:=s1 y hy
    have h2:=hp y (bE _ hy)
    unfold ltK at h1
    omega)with h|h
   ·rw[aO];omega
   ·subst h
    show 1+n<=_
    have:x.1*21<=(k:Int)*21:=Int.mul_le_mul_of_nonneg_right hx.2.1 (by omega)
    omega
 rcases key l h.st hp 0 (λx hx=>by have:=hp x hx;omega)with h|h
 ·omega
 ·rw[h];exact aH _
end
noncomputable section
abbrev SyS:=Bool×Int
abbrev PrS:=Int×(List Int×(List SyS×(Bool×(Int×List Int))))
def inR(n:Nat)(s:Int):Bool:=decide (0<=s)&&decide (s<n)
theorem ja{n:Nat}{s:Int}:inR n s=true↔0<=s/\s<n:=by unfold inR;simp
inductive Emp(ps:List PrS)(n:Nat):Int->Prop
 |mk (p:PrS):p∈ps->inR n p.1=true->(∀ y∈p.2.2.1,y.1=true)->(∀ y∈p.2.2.1,Emp ps n y.2)->Emp ps n p.1
inductive Fst(ps:List PrS)(n:Nat):Int->Nat->Prop
 |tok (p:PrS) (pre:List SyS) (y:SyS) (post:List SyS) (b:Nat):p∈ps->inR n p.1=true->p.2.2.1=pre++y::post->(∀ z∈pre,z.1=true/\Emp ps n z.2)->y.1=false->y.2=(b:Int)->b<=63->Fst ps n p.1 b
 |sort (p:PrS) (pre:List SyS) (y:SyS) (post:List SyS) (b:Nat):p∈ps->inR n p.1=true->p.2.2.1=pre++y::post->(∀ z∈pre,z.1=true/\Emp ps n z.2)->y.1=true->Fst ps n y.2 b->Fst ps n p.1 b
theorem Emp.inR{ps:List PrS}{n:Nat}{s:Int}(h:Emp ps n s):inR n s=true:=by cases h;assumption
theorem Fst.inR{ps:List PrS}{n:Nat}{s:Int}{b:Nat}(h:Fst ps n s b):Rk.inR n s=true:=by cases h <;> assumption
theorem Fst.lt{ps:List PrS}{n:Nat}{s:Int}{b:Nat}(h:Fst ps n s b):b<64:=by
 induction h with
 |tok=>omega
 |sort=>assumption
def vY(k:Int):Int:=if 0<=k/\k<=63 then((2 ^ k.toNat:Nat):Int)else 0
theorem vd(k:Int):U64 (vY k):=by
 unfold vY U64
 split
 ·have h1:(2:Nat) ^ k.toNat<=2 ^ 63:=ix (by omega) (by omega)
  have e:(2:Nat) ^ 63=9223372036854775808:=by decide
  generalize (2:Nat) ^ k.toNat=z at *
  omega
 ·omega
theorem ve(k:Int)(b:Nat):(vY k).toNat.testBit b=true↔k=(b:Int)/\b<=63:=by
 unfold vY
 split
 ·rw[ae,nY]
  simp only[decide_eq_true_eq]
  omega
 ·simp
  omega
def eZ(n:Nat)(f:Nat->Bool)(F:Nat->Int):List SyS->Int×Bool
 |[]=>(0,true)
 |y::r=>if y.1=false then(vY y.2,false)else if inR n y.2=true then(if f y.2.toNat=true then(orI (F y.2.toNat) (eZ n f F r).1,(eZ n f F r).2)else(F y.2.toNat,false))else(0,false)
def emR(n:Nat)(f:Nat->Bool)(b:List SyS):Bool:=b.all λy=>y.1&&inR n y.2&&f y.2.toNat
variable {n:Nat} {f:Nat->Bool} {F:Nat->Int}
theorem iR(h:∀ i,U64 (F i)):∀ b,U64 (eZ n f F b).1
 |[]=>⟨by show(0:Int)<=0;omega,by show(0:Int)<_;omega⟩
 |y::r=>by
  unfold eZ
  split
  ·exact vd _
  ·split
   ·split
    ·exact mN (h _) (iR h r)
    ·exact h _
   ·exact⟨by show(0:Int)<=0;omega,by show(0:Int)<_;omega⟩
theorem yy:∀ b,(eZ n f F b).2=emR n f b
 |[]=>rfl
 |y::r=>by
  unfold eZ emR
  rw[ol]
  cases hy:y.1
  ·simp
  ·cases hr:inR n y.2
   ·simp
   ·cases hf:f y.2.toNat
    ·simp
    ·simp[yy r,emR]
theorem EC{b:List SyS}:emR n f b=true↔∀ y∈b,y.1=true/\inR n y.2=true/\f y.2.toNat=true:=by
 unfold emR
 simp only[cR,ag,and_assoc]
def Beg(n:Nat)(f:Nat->Bool)(F:Nat->Int)(body:List SyS)(b:Nat):Prop:=
 ∃ pre y post,body=pre++y::post/\(∀ z∈pre,z.1=true/\inR n z.2=true/\f z.2.toNat=true)/\(y.1=false/\y.2=(b:Int)/\b<=63\/y.1=true/\inR n y.2=true/\(F y.2.toNat).toNat.testBit b=true)
theorem ke:∀ (body:List SyS) (b:Nat),(eZ n f F body).1.toNat.testBit b=true↔Beg n f F body b
 |[],b=>by
  constructor
  ·intro h;simp[eZ]at h
  ·rintro⟨pre,y,post,h,_⟩;simp at h
 |y::r,b=>by
  have ih:=ke r b
  constructor
  ·intro h
   unfold eZ at h
   split at h
   ·rename_i hy
    rw[ve]at h
    exact⟨[],y,r,rfl,(λz hz=>by cases hz),.inl ⟨hy,h⟩⟩
   ·rename_i hy
    have hy:y.1=true:=by simpa using hy
    split at h
    ·rename_i hr
     split at h
     ·rename_i hf
      rw[dP,aG]at h
      rcases h with h|h
      ·exact⟨[],y,r,rfl,(λz hz=>by cases hz),.inr ⟨hy,hr,h⟩⟩
      ·obtain⟨pre,x,post,rfl,h1,h2⟩:=ih.1 h
       refine⟨y::pre,x,post,rfl,λz hz=>?_,h2⟩
       rcases az.1 hz with rfl|hz
       ·exact⟨hy,hr,hf⟩
       ·exact h1 z hz
     ·exact⟨[],y,r,rfl,(λz hz=>by cases hz),.inr ⟨hy,hr,h⟩⟩
    ·simp at h
  ·rintro⟨pre,x,post,he,h1,h2⟩
   cases pre with
   |nil=>
    simp only[bM,eQ]at he
    obtain⟨rfl,rfl⟩:=he
    unfold eZ
    rcases h2 with⟨hy,h2⟩|⟨hy,hr,h2⟩
    ·rw[if_pos hy,ve];exact h2
    ·rw[if_neg (by simp[hy]),if_pos hr]
     split
     ·rw[dP,h2,dW]
     ·exact h2
   |cons z pre=>
    simp only[dU,eQ]at he
    obtain⟨rfl,rfl⟩:=he
    obtain⟨k1,k2,k3⟩:=h1 y bx
    unfold eZ
    rw[if_neg (by simp[k1]),if_pos k2,if_pos k3,dP,ih.2 ⟨pre,x,post,rfl,λz hz=>h1 z (bE _ hz),h2⟩,fy]
def yz(n:Nat)(f:Nat->Bool)(F:Nat->Int)(b:List SyS)(look:Int):Int:=if(eZ n f F b).2=true then orI (eZ n f F b).1 look else(eZ n f F b).1
theorem Qy(h:∀ i,U64 (F i)){b:List SyS}{look:Int}(hl:U64 look):U64 (yz n f F b look):=by
 unfold yz
 split
 ·exact mN (iR h b) hl
 ·exact iR h b
theorem J3{b:List SyS}{look:Int}{t:Nat}:(yz n f F b look).toNat.testBit t=true↔Beg n f F b t\/emR n f b=true/\look.toNat.testBit t=true:=by
 unfold yz
 rw[yy]
 split
 ·rename_i h
  rw[dP,aG,ke]
  simp[h]
 ·rename_i h
  rw[ke]
  simp[h]
structure IsT(ps:List PrS)(n:Nat)(f:Nat->Bool)(F:Nat->Int):Prop where
 e:∀ i,i<n->(f i=true↔Emp ps n (i:Int))
 u:∀ i,U64 (F i)
 b:∀ i,i<n->∀ b,(F i).toNat.testBit b=true↔Fst ps n (i:Int) b
def inN(n:Nat)(F:Nat->Int):List Int:=(List.range n).map F
def bsS(n:Nat)(f:Nat->Bool):List Bool:=(List.range n).map f
theorem J4{ps:List PrS}{n:Nat}{f g:Nat->Bool}{F G:Nat->Int}(h:IsT ps n f F)(k:IsT ps n g G):bsS n f=bsS n g/\inN n F=inN n G:=by
 constructor
 ·refine kR λi hi=>?_
  have hi:=cE.1 hi
  rw[cf,h.e i hi,k.e i hi]
 ·refine kR λi hi=>?_
  have hi:=cE.1 hi
  refine Bk (h.u i) (k.u i) λb _=>?_
  rw[cf,h.b i hi,k.b i hi]
structure NJ(ps:List PrS)(n:Nat)(f:Nat->Bool)(F:Nat->Int):Prop where
 e:∀ i,f i=true->Emp ps n (i:Int)
 u:∀ i,U64 (F i)
 b:∀ i b,(F i).toNat.testBit b=true->Fst ps n (i:Int) b
theorem jh{n:Nat}{s:Int}(h:inR n s=true):((s.toNat:Nat):Int)=s:=by rw[ja]at h;omega
theorem yA{ps:List PrS}{p:PrS}(hp:p∈ps)(hr:inR n p.1=true)(he:∀ i,f i=true->Emp ps n (i:Int))(h:emR n f p.2.2.1=true):Emp ps n p.1:=by
 rw[EC]at h
 refine .mk p hp hr (λy hy=>(h y hy).1) λy hy=>?_
 have:=he _ (h y hy).2.2
 rwa [jh (h y hy).2.1]at this
theorem Bl{ps:List PrS}{p:PrS}(hp:p∈ps)(hr:inR n p.1=true)(he:∀ i,f i=true->Emp ps n (i:Int))(hb:∀ i b,(F i).toNat.testBit b=true->Fst ps n (i:Int) b){b:Nat}(h:Beg n f F p.2.2.1 b):Fst ps n p.1 b:=by
 obtain⟨pre,y,post,e,h1,h2⟩:=h
 have xB:∀ z∈pre,z.1=true/\Emp ps n z.2:=λz hz=>by
  have:=he _ (h1 z hz).2.2
  rw[jh (h1 z hz).2.1]at this
  exact⟨(h1 z hz).1,this⟩
 rcases h2 with⟨k1,k2,k3⟩|⟨k1,k2,k3⟩
 ·exact .tok p pre y post b hp hr e xB k1 k2 k3
 ·have:=hb _ _ k3
  rw[jh k2]at this
  exact .sort p pre y post b hp hr e xB k1 this
theorem J5{ps:List PrS}(hc:∀ p∈ps,inR n p.1=true->emR n f p.2.2.1=true->f p.1.toNat=true){s:Int}(h:Emp ps n s):f s.toNat=true:=by
 induction h with
 |mk p hp hr h1 h2 ih=>exact hc p hp hr (EC.2 λy hy=>⟨h1 y hy,(h2 y hy).inR,ih y hy⟩)
theorem Qz{ps:List PrS}(he:∀ s,Emp ps n s->f s.toNat=true)(hc:∀ p∈ps,inR n p.1=true->∀ b,Beg n f F p.2.2.1 b->(F p.1.toNat).toNat.testBit b=true){s:Int}{b:Nat}(h:Fst ps n s b):(F s.toNat).toNat.testBit b=true:=by
 induction h with
 |tok p pre y post b hp hr e h1 k1 k2 k3=>exact hc p hp hr b ⟨pre,y,post,e,λz hz=>⟨(h1 z hz).1,(h1 z hz).2.inR,he _ (h1 z hz).2⟩,.inl ⟨k1,k2,k3⟩⟩
 |sort p pre y post b hp hr e h1 k1 k2 ih=>exact hc p hp hr b ⟨pre,y,post,e,λz hz=>⟨(h1 z hz).1,(h1 z hz).2.inR,he _ (h1 z hz).2⟩,.inr ⟨k1,k2.inR,ih⟩⟩
theorem NJ.isT{ps:List PrS}(h:NJ ps n f F)(hE:∀ p∈ps,inR n p.1=true->emR n f p.2.2.1=true->f p.1.toNat=true)(hF:∀ p∈ps,inR n p.1=true->∀ b,Beg n f F p.2.2.1 b->(F p.1.toNat).toNat.testBit b=true):IsT ps n f F:=by
 have he:∀ s,Emp ps n s->f s.toNat=true:=λs hs=>J5 hE hs
 exact⟨λi _=>⟨h.e i,λhs=>he _ hs⟩,h.u,λi _ b=>⟨h.b i b,λhs=>Qz he hF hs⟩⟩
end
noncomputable section
theorem wrap_u64{n:Int}(h:U64 n):IntKind.wrap .u64 n=n:=by
 unfold U64 at h
 simp[IntKind.wrap,IntKind.bits,IntKind.signed]
 omega
theorem mG{a b:Int}(ha:U64 a)(hb:U64 b):eG .or .u64 a b=orI a b:=by
 have h:=mN ha hb
 unfold eG orI
 simp only
 have e:(BitVec.ofInt (IntKind.bits .u64) a|||BitVec.ofInt (IntKind.bits .u64) b).toNat=a.toNat|||b.toNat:=by
  rw[rh]
  have k:∀ x:Int,U64 x->(BitVec.ofInt (IntKind.bits .u64) x).toNat=x.toNat:=λx hx=>by
   unfold U64 at hx
   rw[qU]
   show(x % ((2 ^ 64:Nat):Int)).toNat=x.toNat
   rw[Int.emod_eq_of_lt hx.1 (by
    have:((2 ^ 64:Nat):Int)=18446744073709551616:=by decide
    omega)]
  rw[k a ha,k b hb]
 rw[e]
 exact wrap_u64 h
theorem J6(k:Int)(h1:-9223372036854775808<=k)(h2:k<=9223372036854775807):p80 N0 (k,())=some ((vY k,()),()):=by
 unfold p80
 simp only[aJ,bO,decide_eq_true_eq]
 have hb:=vd k
 unfold vY at hb |-
 by_cases a:k<0
 ·rw[if_pos a,if_pos trivial,if_neg (by omega)]
 rw[if_neg a]
 by_cases b:63<k
 ·rw[if_pos (by simpa using b),if_neg (by omega)]
 rw[if_neg (by simpa using b)]
 have hw:IntKind.wrap .u64 k=k:=wrap_u64 ⟨by omega,by omega⟩
 have hm:Nat.min k.toNat (IntKind.bits .u64)=k.toNat:=dr (by show k.toNat<=64;omega)
 rw[hw,if_neg a,hm]
 rw[if_pos (by omega)]at hb |-
 rw[show(1:Int)*2 ^ k.toNat=((2 ^ k.toNat:Nat):Int) by simp,wrap_u64 hb]
def ko(f:Nat->Bool):Nat->Nat
 |0=>0
 |n+1=>ko f n+if f n=true then 2 ^ n else 0
theorem tu(f:Nat->Bool):∀ n,ko f n<2 ^ n
 |0=>by show 0<1;omega
 |n+1=>by
  have:=tu f n
  simp only[ko,iD]
  split <;> omega
theorem ji(f:Nat->Bool):∀ n i,(ko f n).testBit i=(decide (i<n)&&f i)
 |0,i=>by simp[ko]
 |n+1,i=>by
  have ih:=ji f n
  have hlt:=tu f n
  simp only[ko]
  cases hf:f n
  ·simp only[au,if_false,fS,ih]
   by_cases e:i=n
   ·subst e;simp[hf]
   ·by_cases h:i<n
    ·simp[h,fv h]
    ·have:¬i<n+1:=by omega
     simp[h,this]
  ·simp only[if_true]
   have h2:=wi hlt 1
   rw[gO]at h2
   rw[lc,h2,kY,nY,ih]
   by_cases e:i=n
   ·subst e;simp[hf]
   ·have e':¬n=i:=λh=>e h.symm
    by_cases h:i<n
    ·simp[h,fv h,e']
    ·have:¬i<n+1:=by omega
     simp[h,this,e']
theorem yB(f:Nat->Bool):p86 N0 (bsS 64 f,())=some ((((ko f 64:Nat):Int),()),()):=by
 have hl:(bsS 64 f).length=64:=by simp[bsS]
 unfold p86
 simp only[aJ,bO,decide_eq_true_eq]
 have e64:(2:Nat) ^ 64=18446744073709551616:=by decide
 refine bQ (λj=>((),(((ko f j:Nat):Int),((IntKind.wrap .u64 ((2 ^ j:Nat):Int)),((j:Int),()))))) (λj=>some ((((ko f 64:Nat):Int),()),())) 64 (λj hj k hk=>?_) N0 0 (aH _) (by unfold N0;omega)
 simp only[hl]
 rcases ap j 64 with h|h
 ·have c1:(j:Int)<((64:Nat):Int):=by omega
  have c2:(j:Int)<64:=by omega
  have hg:(bsS 64 f)[j]?=some (f j):=by unfold bsS;rw[bS,dS h];rfl
  have hp:(2:Nat) ^ j<2 ^ 64:=qO (by omega) h
  have hU:U64 ((2 ^ j:Nat):Int):=by
   rw[e64]at hp
   generalize (2:Nat) ^ j=z at hp |-
   exact⟨by omega,by omega⟩
  have hv:=tu f (j+1)
  have hv2:(2:Nat) ^ (j+1)<=2 ^ 64:=ix (by omega) h
  have hk:=hk h
  have hdb:IntKind.wrap .u64 (((2 ^ j:Nat):Int)*2)=IntKind.wrap .u64 ((2 ^ (j+1):Nat):Int):=by rw[iD];simp
  have hj1:IntKind.wrap .i64 ((j:Int)+1)=((j+1:Nat):Int):=by rw[bD (by omega) (by omega)];simp
  simp only[c1,if_true,c2,decide_true,aQ,ae,hg,wrap_u64 hU,hdb,hj1]
  rw[<-hk]
  cases hf:f j
  ·simp[ko,hf]
  ·have:IntKind.wrap .u64 (((ko f j:Nat):Int)+((2 ^ j:Nat):Int))=((ko f (j+1):Nat):Int):=by
    simp only[ko,hf,if_true]at hv |-
    rw[e64]at hv2
    generalize (2:Nat) ^ j=z at hv |-
    generalize (2:Nat) ^ (j+1)=z2 at hv hv2
    rw[wrap_u64 ⟨by omega,by omega⟩];simp
   simp only[if_true,this]
 ·have e:j=64:=by omega
  subst e
  simp
theorem pA(f:Nat->Bool):U64 ((ko f 64:Nat):Int):=by
 have:=tu f 64
 have e64:(2:Nat) ^ 64=18446744073709551616:=by decide
 exact⟨by omega,by omega⟩
theorem qu(n:Nat):List.replicate n false=bsS n λ_=>false:=by
 unfold bsS;rw[oe];simp
theorem oO(n:Nat)(f:Nat->Bool):(bsS n f).length=n:=by simp[bsS]
theorem jy{n:Nat}(f:Nat->Bool){i:Nat}(h:i<n):(bsS n f)[i]?=some (f i):=by
 unfold bsS;rw[bS,dS h];rfl
def di{α:Type}(f:Nat->α)(i:Nat)(v:α):Nat->α:=λj=>if j=i then v else f j
theorem map_set{α:Type}(n:Nat)(f:Nat->α)(i:Nat)(v:α):((List.range n).map f).set i v=(List.range n).map (di f i v):=by
 apply eC
 intro j
 rw[jG]
 by_cases hj:j<n
 ·rw[bS,dS hj,bS,dS hj]
  by_cases e:i=j
  ·subst e
   rw[if_pos rfl,if_pos (by simpa using hj)]
   simp[di]
  ·have e':¬j=i:=λh=>e h.symm
   rw[if_neg e]
   simp[di,e']
 ·have e1:((List.range n).map f)[j]?=none:=bn (by simp;omega)
  have e2:((List.range n).map (di f i v))[j]?=none:=bn (by simp;omega)
  rw[e1,e2]
  simp
  omega
theorem oP{n:Nat}(f:Nat->Bool)(i:Nat)(v:Bool):(bsS n f).set i v=bsS n (di f i v):=map_set n f i v
theorem J7(k:Int):p56 N0 (k,())=some ((vY k,()),()):=by
 unfold p56
 have key:∀ f:Nat->Bool,(∀ i,f i=true↔k=(i:Int)/\i<=63)->((ko f 64:Nat):Int)=vY k:=λf hf=>by
  refine Bk (pA f) (vd k) λi hi=>?_
  rw[ae,ji,cf,ve,ag,hf]
  simp[hi]
 simp only[aJ,bO,decide_eq_true_eq,show Int.toNat 64=64 from rfl,qu]
 rw[if_pos (by decide),if_pos (by decide)]
 by_cases h1:0<=k
 ·by_cases h2:k<64
  ·have hk:k.toNat<64:=by omega
   simp only[h1,h2,if_true,decide_true,jy _ hk,oP,yB,aC]
   rw[key _ (λi=>by simp[di];omega)]
  ·simp only[h1,h2,if_true,decide_false,au,if_false,yB,aC]
   rw[key _ (λi=>by simp;omega)]
 ·simp only[h1,if_false,au,yB,aC]
  rw[key _ (λi=>by simp;omega)]
def sf(A:Nat):Nat->Nat
 |0=>A
 |j+1=>sf A j / 2
theorem yC(A:Nat):∀ j,sf A j=A / 2 ^ j
 |0=>by simp[sf]
 |j+1=>by rw[sf,yC A j,iD,nV]
theorem NK(A j:Nat):sf A j<=A:=by rw[yC];exact ri _ _
theorem ED{a:Int}(ha:U64 a){n:Nat}(hn:n<64):I6 N0 (a,((n:Int),()))=some ((a.toNat.testBit n,()),()):=by
 obtain⟨A,rfl⟩:∃ A:Nat,a=(A:Int):=⟨a.toNat,by unfold U64 at ha;omega⟩
 unfold I6
 have h1:¬(n:Int)<0:=by omega
 have h2:¬(63:Int)<(n:Int):=by omega
 simp only[aJ,bO,decide_eq_true_eq,h1,if_false,h2,decide_false,au,ae]
 have hU:∀ j,U64 ((sf A j:Nat):Int):=λj=>by
  have:=NK A j
  unfold U64 at *
  omega
 refine bQ (λj=>((),(((sf A j:Nat):Int),((j:Int),())))) (λj=>some ((A.testBit n,()),())) n (λj hj k hk=>?_) N0 0 (aH _) (by unfold N0;omega)
 simp only[show ¬(2:Int)=0 by omega,if_false]
 rcases ap j n with h|h
 ·have c:(j:Int)<(n:Int):=by omega
  have hd:Int.tdiv ((sf A j:Nat):Int) 2=((sf A (j+1):Nat):Int):=rfl
  have hj1:IntKind.wrap .i64 ((j:Int)+1)=((j+1:Nat):Int):=by rw[bD (by omega) (by omega)];simp
  simp only[c,if_true,hd,wrap_u64 (hU _),hj1]
  exact hk h
 ·have e:j=n:=by omega
  subst e
  simp only[om,if_false]
  congr 3
  rw[qF,<-yC]
  have:Int.tmod ((sf A j:Nat):Int) 2=((sf A j % 2:Nat):Int):=rfl
  rw[this]
  by_cases hz:sf A j % 2=1
  ·simp[hz]
  ·have:¬((sf A j % 2:Nat):Int)=1:=by omega
   simp only[hz,this,decide_false]
theorem yD{a b:Int}(ha:U64 a)(hb:U64 b):p85 N0 (a,(b,()))=some ((orI a b,()),()):=by
 unfold p85
 simp only[aJ,bO,decide_eq_true_eq,show Int.toNat 64=64 from rfl,qu]
 rw[if_pos (by decide),if_pos (by decide)]
 refine bQ (λj=>((bsS 64 (λi=>decide (i<j)&&(a.toNat.testBit i||b.toNat.testBit i)),()),((j:Int),()))) (λj=>some ((orI a b,()),())) 64 (λj hj k hk=>?_) N0 0 (aH _) (by unfold N0;omega)
 rcases ap j 64 with h|h
 ·have c:(j:Int)<64:=by omega
  have hj1:IntKind.wrap .i64 ((j:Int)+1)=((j+1:Nat):Int):=by rw[bD (by omega) (by omega)];simp
  have hu:∀ v,v=(a.toNat.testBit j||b.toNat.testBit j)->di (λi=>decide (i<j)&&(a.toNat.testBit i||b.toNat.testBit i)) j v=λi=>decide (i<j+1)&&(a.toNat.testBit i||b.toNat.testBit i):=λv hv=>by
   funext i
   unfold di
   by_cases e:i=j
   ·subst e;simp[hv]
   ·rw[if_neg e]
    by_cases h:i<j
    ·simp[h,fv h]
    ·have:¬i<j+1:=by omega
     simp[h,this]
  have hk:=hk h
  simp only[c,if_true,ED ha h,ED hb h,aC,aQ,ae,jy _ h,oP,hj1]
  rw[<-hk]
  cases h1:a.toNat.testBit j
  ·simp only[au,if_false]
   rw[hu _ (by rw[h1,cT])]
  ·simp only[if_true]
   rw[hu _ (by rw[h1,dW])]
 ·have e:j=64:=by omega
  subst e
  simp only[show ¬((64:Nat):Int)<64 by omega,if_false,yB,aC]
  congr 3
  refine Bk (pA _) (mN ha hb) λi hi=>?_
  rw[ae,ji,dP]
  simp[hi]
end
noncomputable section
theorem GX(a b c:Int):orI (orI a b) c=orI a (orI b c):=by
 unfold orI
 rw[ae,ae,Nat.or_assoc]
theorem Bm:U64 0:=⟨by omega,by omega⟩
theorem kE{n:Nat}(F:Nat->Int){i:Nat}(h:i<n):(inN n F)[i]?=some (F i):=by
 unfold inN;rw[bS,dS h];rfl
theorem qv(n:Nat)(F:Nat->Int):(inN n F).length=n:=by simp[inN]
theorem tv{n:Nat}(F:Nat->Int)(i:Nat)(v:Int):(inN n F).set i v=inN n (di F i v):=map_set n F i v
theorem yE(n:Nat):List.replicate n (0:Int)=inN n λ_=>0:=by
 unfold inN;rw[oe];simp
def GY(b:List SyS):Prop:=∀ y∈b,-9223372036854775808<=y.2/\y.2<=9223372036854775807
variable {n:Nat} {f:Nat->Bool} {F:Nat->Int}
theorem J8(hF:∀ i,U64 (F i)){body:List SyS}(hb:GY body)(hl:body.length<=maxLen):p73 N0 ((bsS n f,inN n F),(body,()))=some (((eZ n f F body).1,((eZ n f F body).2,())),()):=by
 unfold p73
 simp only[aJ,bO,decide_eq_true_eq,oO,qv]
 refine(aZ (λm x r=>∃ (j:Nat) (out:Int),x=((),(out,((j:Int),())))/\j<=body.length/\m=body.length-j/\U64 out/\r=some (((orI out (eZ n f F (body.drop j)).1,((eZ n f F (body.drop j)).2,())),()):(Int×(Bool×Unit))×Unit)) ?_ N0 body.length _ _ (by have:=j7 hl;omega) ⟨0,0,rfl,aH _,rfl,Bm,rfl⟩).trans (by rw[du,JZ (iR hF body).1])
 rintro m x r ⟨j,out,rfl,hjl,rfl,sZ,rfl⟩ k hk
 rcases ap j body.length with h|h
 ·have c:(j:Int)<(body.length:Int):=by omega
  have hy:=hb _ (bo h)
  simp only[c,if_true,aQ,ae,ah h,br h hl]
  rw[cQ h]
  generalize body[j]=y at hy |-
  unfold eZ
  cases h1:y.1
  ·simp only[aI,if_true,J6 y.2 hy.1 hy.2,aC,mG sZ (vd _)]
  ·simp only[aB,au,if_false,reduceCtorEq]
   by_cases h2:y.2<0
   ·have:inR n y.2=false:=by unfold inR;simp;omega
    simp only[h2,if_true,this,au,if_false,u9 sZ.1]
   ·by_cases h3:(n:Int)<=y.2
    ·have:inR n y.2=false:=by unfold inR;simp;omega
     simp only[h2,if_false,h3,if_true,this,au,u9 sZ.1]
    ·have hr:inR n y.2=true:=by rw[ja];omega
     have hi:y.2.toNat<n:=by omega
     have h0:0<=y.2:=by omega
     simp only[h2,if_false,h3,decide_false,au,hr,if_true,h0,kE F hi,jy f hi]
     cases hf:f y.2.toNat
     ·simp only[aI,if_true,mG sZ (hF _),au,if_false]
     ·simp only[aB,au,if_false,if_true,mG sZ (hF _)]
      rw[<-GX]
      exact hk _ _ _ (by omega) ⟨j+1,_,rfl,by omega,rfl,mN sZ (hF _),rfl⟩
 ·have c:¬(j:Int)<(body.length:Int):=by omega
  simp only[c,if_false]
  rw[fq h]
  show _=some (((orI out 0,(true,())),()))
  rw[u9 sZ.1]
theorem QA(hF:∀ i,U64 (F i)){body:List SyS}(hb:GY body)(hl:body.length<=maxLen){look:Int}(hk:U64 look):p77 N0 ((bsS n f,inN n F),(body,(look,())))=some ((yz n f F body look,()),()):=by
 unfold p77 yz
 simp only[J8 hF hb hl,aC,bO]
 split
 ·rw[mG (iR hF body) hk]
 ·rfl
theorem CR(hF:∀ i,U64 (F i)):∀ (d:Nat) (body:List SyS),GY body->body.length<d->I7 N0 d (bsS n f,(inN n F,(body,())))=some (((eZ n f F body).1,((eZ n f F body).2,())),())
 |0,body,_,h=>by omega
 |d+1,body,hb,hd=>by
  rw[I7]
  unfold MP
  simp only[aJ,bO,decide_eq_true_eq,oO,qv]
  cases body with
  |nil=>simp[eZ]
  |cons y r=>
   have c:¬(((y::r).length:Nat):Int)=0:=by simp;omega
   have ih:=CR hF d r (λz hz=>hb z (bE _ hz)) (by rw[aO]at hd;omega)
   simp only[c,if_false,iE,if_true,Int.toNat_zero,gF]
   unfold eZ
   cases h1:y.1
   ·simp only[aI,if_true,J7,aC]
   ·simp only[aB,au,if_false,reduceCtorEq]
    by_cases h2:y.2<0
    ·have:inR n y.2=false:=by unfold inR;simp;omega
     simp only[h2,if_true,this,au,if_false]
    ·by_cases h3:(n:Int)<=y.2
     ·have:inR n y.2=false:=by unfold inR;simp;omega
      simp only[h2,if_false,h3,if_true,this,au]
     ·have hr:inR n y.2=true:=by rw[ja];omega
      have hi:y.2.toNat<n:=by omega
      have h0:0<=y.2:=by omega
      simp only[h2,if_false,h3,decide_false,au,hr,if_true,h0,kE F hi,jy f hi]
      cases hf:f y.2.toNat
      ·simp only[aI,if_true,au,if_false]
      ·have rW:cz (y::r) 1 (((y::r).length:Nat):Int)=r:=by simp[cz]
       have c2:(0:Int)<=1/\(1:Int)<=(((y::r).length:Nat):Int)/\True:=⟨by omega,by simp;omega,trivial⟩
       simp only[aB,au,if_false,if_true]
       rw[if_pos c2,rW,ih]
       simp only[aC,yD (hF _) (iR hF r)]
theorem QB(hF:∀ i,U64 (F i)){body:List SyS}(hb:GY body)(hl:body.length<=maxLen){look:Int}(hk:U64 look):p55 N0 (bsS n f,(inN n F,(body,(look,()))))=some ((yz n f F body look,()),()):=by
 unfold p55 yz p84
 simp only[CR hF N0 body hb (by have:=j7 hl;omega),aC,bO,yD (iR hF body) hk]
 split <;> rfl
end
noncomputable section
abbrev GrS:=List (List Int×(Int×List Int))×(List (List Int)×(List PrS×(List (Int×List Int)×Int)))
structure Gs(g:GrS):Prop where
 ns:g.2.1.length<=20
 ps:g.2.2.1.length<=12
 pb:∀ p∈g.2.2.1,p.2.2.1.length<=20
 py:∀ p∈g.2.2.1,GY p.2.2.1
 st:-9223372036854775808<=g.2.2.2.2/\g.2.2.2.2<=9223372036854775807
theorem cZ{α:Type}:∀ (l:List α) (j:Nat) (h:j<l.length),l.take (j+1)=l.take j++[l[j]]
 |[],j,h=>by simp at h
 |a::l,0,h=>by simp
 |a::l,j+1,h=>by
  have:=cZ l j (by simpa using h)
  simp only[qS,this,dU,List.getElem_cons_succ]
theorem cD{j n:Nat}(h:j<n)(hn:n<=1000000):IntKind.wrap .i64 ((j:Int)+1)=((j+1:Nat):Int):=by
 rw[bD (by omega) (by omega)];simp
def stE(n:Nat)(f:Nat->Bool)(p:PrS):Nat->Bool:=if(emR n f p.2.2.1&&inR n p.1)=true then di f p.1.toNat true else f
def rdE(n:Nat)(ps:List PrS)(f:Nat->Bool):Nat->Bool:=ps.foldl (stE n) f
def itE(n:Nat)(ps:List PrS):Nat->Nat->Bool
 |0=>λ_=>false
 |k+1=>rdE n ps (itE n ps k)
theorem J9{n:Nat}{f:Nat->Bool}(b:List SyS)(y:SyS):emR n f (b++[y])=(emR n f b&&(y.1&&inR n y.2&&f y.2.toNat)):=by
 unfold emR;rw[List.all_append];simp
set_option maxHeartbeats 1000000 in
theorem NL{g:GrS}(hg:Gs g):p51 N0 (g,())=some ((bsS g.2.1.length (itE g.2.1.length g.2.2.1 (g.2.1.length+1)),()),()):=by
 have hns:=hg.ns
 have hps:=hg.ps
 obtain⟨n,hn⟩:∃ n,n=g.2.1.length:=⟨_,rfl⟩
 unfold p51
 simp only[aJ,bO,decide_eq_true_eq,<-hn,qu,ae]
 rw[<-hn]at hns
 rw[if_pos ⟨by omega,by omega⟩,if_pos (by omega)]
 refine bQ (λj=>((bsS n (itE n g.2.2.1 j),()),((j:Int),()))) (λ_=>some ((bsS n (itE n g.2.2.1 (n+1)),()),())) (n+1) (λk hk K hK=>?_) N0 0 (aH _) (by unfold N0;omega)
 simp only[oO]
 rcases ap k (n+1)with h|h
 ·have c:(k:Int)<=(n:Int):=by omega
  have hK:=hK h
  have hk1:IntKind.wrap .i64 ((k:Int)+1)=((k+1:Nat):Int):=cD h (by omega)
  simp only[c,if_true,hk1]
  rw[<-hK,show itE n g.2.2.1 (k+1)=rdE n g.2.2.1 (itE n g.2.2.1 k)from rfl]
  generalize itE n g.2.2.1 k=f0 at *
  refine bQ (λi=>((bsS n (rdE n (g.2.2.1.take i) f0),()),((i:Int),()))) (λ_=>K ((bsS n (rdE n g.2.2.1 f0),()),(((k+1:Nat):Int),()))) g.2.2.1.length (λi hi L hL=>?_) N0 0 (aH _) (by unfold N0;omega)
  rcases ap i g.2.2.1.length with hil|hil
  ·have ci:(i:Int)<(g.2.2.1.length:Int):=by omega
   have hL:=hL hil
   have hi1:IntKind.wrap .i64 ((i:Int)+1)=((i+1:Nat):Int):=cD hil (by omega)
   have sQ:rdE n (g.2.2.1.take (i+1)) f0=stE n (rdE n (g.2.2.1.take i) f0) g.2.2.1[i]:=by
    unfold rdE
    rw[cZ _ _ hil,iA];rfl
   have hp:=bo hil
   have hbl:=hg.pb _ hp
   simp only[ci,if_true,aQ,ae,ah hil,hi1]
   rw[sQ]at hL
   generalize rdE n (g.2.2.1.take i) f0=f at *
   generalize g.2.2.1[i]=p at *
   refine bQ (λj=>((bsS n f,()),(emR n f (p.2.2.1.take j),((j:Int),())))) (λ_=>K ((bsS n (rdE n g.2.2.1 f0),()),(((k+1:Nat):Int),()))) p.2.2.1.length (λj hj M hM=>?_) N0 0 (aH _) (by unfold N0;omega)
   rcases ap j p.2.2.1.length with hjl|hjl
   ·have cj:(j:Int)<(p.2.2.1.length:Int):=by omega
    have hM:=hM hjl
    rw[cZ _ _ hjl,J9]at hM
    have hj1:IntKind.wrap .i64 ((j:Int)+1)=((j+1:Nat):Int):=cD hjl (by omega)
    simp only[cj,if_true,aQ,ae,ah hjl,hj1,oO]
    generalize p.2.2.1[j]=y at *
    rw[<-hM]
    cases h1:emR n f (p.2.2.1.take j)
    ·simp
    ·cases h2:y.1
     ·simp
     ·by_cases h3:0<=y.2
      ·by_cases h4:y.2<(n:Int)
       ·have hr:inR n y.2=true:=ja.2 ⟨h3,h4⟩
        have hyl:y.2.toNat<n:=by omega
        simp only[if_true,h3,h4,jy f hyl,hr,bI]
       ·have hr:inR n y.2=false:=by unfold inR;simp[h4]
        simp only[if_true,h3,h4,if_false,hr,bI,dI]
      ·have hr:inR n y.2=false:=by unfold inR;simp[h3]
       simp only[if_true,h3,if_false,hr,bI,dI]
   ·have cj:¬(j:Int)<(p.2.2.1.length:Int):=by omega
    rw[bR hjl]
    simp only[cj,if_false,oO]
    rw[<-hL]
    unfold stE
    cases h1:emR n f p.2.2.1
    ·simp
    ·by_cases h3:0<=p.1
     ·by_cases h4:p.1<(n:Int)
      ·have hr:inR n p.1=true:=ja.2 ⟨h3,h4⟩
       have hyl:p.1.toNat<n:=by omega
       simp only[if_true,h3,h4,decide_true,jy f hyl,hr,bI,oP]
      ·have hr:inR n p.1=false:=by unfold inR;simp[h4]
       simp[h3,h4,hr]
     ·have hr:inR n p.1=false:=by unfold inR;simp[h3]
      simp[h3,hr]
  ·have ci:¬(i:Int)<(g.2.2.1.length:Int):=by omega
   simp only[ci,if_false]
   rw[bR hil]
 ·have e:k=n+1:=by omega
  subst e
  have c:¬((n+1:Nat):Int)<=(n:Int):=by omega
  simp only[c,if_false]
theorem Bn{n:Nat}{f:Nat->Bool}{p:PrS}{i:Nat}(h:f i=true):stE n f p i=true:=by
 unfold stE
 split
 ·unfold di;split
  ·rfl
  ·exact h
 ·exact h
theorem vf{n:Nat}:∀ (ps:List PrS) {f:Nat->Bool} {i:Nat},f i=true->rdE n ps f i=true
 |[],f,i,h=>h
 |p::ps,f,i,h=>vf (f:=stE n f p) ps (Bn h)
def ClE(n:Nat)(ps:List PrS)(f:Nat->Bool):Prop:=∀ p∈ps,inR n p.1=true->emR n f p.2.2.1=true->f p.1.toNat=true
theorem Ka{n:Nat}:∀ (ps:List PrS) {f:Nat->Bool},(∀ i,i<n->rdE n ps f i=true->f i=true)->ClE n ps f
 |[],f,h=>λp hp=>by cases hp
 |p::ps,f,h=>by
  have e:stE n f p=f:=by
   funext i
   rw[cf]
   constructor
   ·intro hi
    unfold stE at hi
    split at hi
    ·rename_i hc
     simp only[ag]at hc
     unfold di at hi
     split at hi
     ·rename_i e
      subst e
      have hr:=ja.1 hc.2
      refine h _ (by omega) (vf (f:=stE n f p) ps ?_)
      unfold stE di
      rw[if_pos (by rw[hc.1,hc.2];rfl),if_pos rfl]
     ·exact hi
    ·exact hi
   ·exact Bn
  have ih:=Ka ps (f:=f) (λi hi hr=>h i hi (by show rdE n ps (stE n f p) i=true;rw[e];exact hr))
  intro q hq h1 h2
  rcases az.1 hq with rfl|hq
  ·have:stE n f q q.1.toNat=true:=by
    unfold stE di
    rw[if_pos (by rw[h1,h2];rfl),if_pos rfl]
   rwa [e]at this
  ·exact ih q hq h1 h2
theorem vg{n:Nat}{f:Nat->Bool}:∀ (ps:List PrS),ClE n ps f->rdE n ps f=f
 |[],_=>rfl
 |p::ps,h=>by
  have e:stE n f p=f:=by
   unfold stE
   split
   ·rename_i hc
    simp only[ag]at hc
    funext i
    unfold di
    split
    ·rename_i e
     rw[e,h p bx hc.2 hc.1]
    ·rfl
   ·rfl
  show rdE n ps (stE n f p)=f
  rw[e]
  exact vg ps (λq hq=>h q (bE _ hq))
theorem NM{n:Nat}{ps:List PrS}:∀ k i,itE n ps k i=true->Emp ps n (i:Int):=by
 have hs:∀ (l:List PrS),(∀ p∈l,p∈ps)->∀ f:Nat->Bool,(∀ i,f i=true->Emp ps n (i:Int))->∀ i,rdE n l f i=true->Emp ps n (i:Int):=by
  intro l
  induction l with
  |nil=>intro _ f hf;exact hf
  |cons p l ih=>
   intro hl f hf
   refine ih (λq hq=>hl q (bE _ hq)) (stE n f p) λi hi=>?_
   unfold stE at hi
   split at hi
   ·rename_i hc
    simp only[ag]at hc
    unfold di at hi
    split at hi
    ·rename_i e
     rw[e,jh hc.2]
     exact yA (hl p bx) hc.2 hf hc.1
    ·exact hf i hi
   ·exact hf i hi
 intro k
 induction k with
 |zero=>intro i h;cases h
 |succ k ih=>exact hs ps (λ_ h=>h) _ ih
theorem QC{n:Nat}{ps:List PrS}:ClE n ps (itE n ps (n+1)):=by
 have key:∀ k,ClE n ps (itE n ps k)\/ij (List.range n) (λi=>itE n ps k i=true)+k<=n:=by
  intro k
  induction k with
  |zero=>
   have:=jg (List.range n) (λi=>itE n ps 0 i=true)
   rw[kS]at this
   exact .inr (by omega)
  |succ k ih=>
   rcases ih with h|h
   ·left
    show ClE n ps (rdE n ps (itE n ps k))
    rw[vg ps h];exact h
   ·by_cases hc:∀ i,i<n->rdE n ps (itE n ps k) i=true->itE n ps k i=true
    ·left
     have hcl:=Ka ps hc
     show ClE n ps (rdE n ps (itE n ps k))
     rw[vg ps hcl];exact hcl
    ·right
     have:∃ i,i<n/\rdE n ps (itE n ps k) i=true/\¬itE n ps k i=true:=by
      apply jC
      intro hn
      refine hc λi h1 h2=>?_
      apply jC
      intro h3
      exact hn ⟨i,h1,h2,h3⟩
     obtain⟨i,h1,h2,h3⟩:=this
     have:=oN (U:=List.range n) (P:=λi=>itE n ps k i=true) (Q:=λi=>itE n ps (k+1) i=true) (λj _ hj=>vf ps hj) (cE.2 h1) h3 h2
     omega
 rcases key (n+1)with h|h
 ·exact h
 ·omega
theorem NN{n:Nat}{ps:List PrS}(i:Nat):itE n ps (n+1) i=true↔Emp ps n (i:Int):=
 ⟨NM _ i,λh=>J5 QC h⟩
end
noncomputable section
open Classical in
def tE(ps:List PrS)(n:Nat):Nat->Bool:=λi=>decide (Emp ps n (i:Int))
open Classical in
def tF(ps:List PrS)(n:Nat):Nat->Int:=λi=>((ko (λb=>decide (Fst ps n (i:Int) b)) 64:Nat):Int)
theorem sg{ps:List PrS}{n i:Nat}:tE ps n i=true↔Emp ps n (i:Int):=by unfold tE;simp
theorem Kb{ps:List PrS}{n:Nat}(i:Nat):U64 (tF ps n i):=pA _
theorem QD{ps:List PrS}{n i b:Nat}:(tF ps n i).toNat.testBit b=true↔Fst ps n (i:Int) b:=by
 unfold tF
 rw[ae,ji,ag]
 simp only[decide_eq_true_eq]
 exact⟨λh=>h.2,λh=>⟨h.lt,h⟩⟩
theorem tT{ps:List PrS}{n:Nat}:IsT ps n (tE ps n) (tF ps n):=⟨λi _=>sg,Kb,λi _ b=>QD⟩
theorem Kc{g:GrS}(hg:Gs g):p51 N0 (g,())=some ((bsS g.2.1.length (tE g.2.2.1 g.2.1.length),()),()):=by
 rw[NL hg]
 congr 3
 refine kR λi _=>?_
 rw[cf,NN,sg]
def stF(n:Nat)(e:Nat->Bool)(s:(Nat->Int)×Bool)(p:PrS):(Nat->Int)×Bool:=
 if inR n p.1=true then(di s.1 p.1.toNat (orI (eZ n e s.1 p.2.2.1).1 (s.1 p.1.toNat)),s.2||!decide (orI (eZ n e s.1 p.2.2.1).1 (s.1 p.1.toNat)=s.1 p.1.toNat))else s
def rdF(n:Nat)(e:Nat->Bool)(ps:List PrS)(s:(Nat->Int)×Bool):(Nat->Int)×Bool:=ps.foldl (stF n e) s
def leF(F G:Nat->Int):Prop:=∀ i b,(F i).toNat.testBit b=true->(G i).toNat.testBit b=true
def kf(F:Nat->Int):Prop:=∀ i,U64 (F i)
theorem Bo{F:Nat->Int}(h:kf F){i:Nat}{v:Int}(hv:U64 v):kf (di F i v):=λj=>by
 unfold di;split
 ·exact hv
 ·exact h j
theorem Ow{n:Nat}{e:Nat->Bool}{s:(Nat->Int)×Bool}{p:PrS}(h:kf s.1):kf (stF n e s p).1:=by
 unfold stF;split
 ·exact Bo h (mN (iR h _) (h _))
 ·exact h
theorem Kd{n:Nat}{e:Nat->Bool}{s:(Nat->Int)×Bool}{p:PrS}:leF s.1 (stF n e s p).1:=by
 intro i b hb
 unfold stF;split
 ·show(di s.1 p.1.toNat _ i).toNat.testBit b=true
  unfold di;split
  ·rename_i e0
   rw[dP,<-e0,hb,fy]
  ·exact hb
 ·exact hb
theorem Ox{n:Nat}{e:Nat->Bool}:∀ (ps:List PrS) {s:(Nat->Int)×Bool},kf s.1->kf (rdF n e ps s).1
 |[],s,h=>h
 |p::ps,s,h=>Ox (s:=stF n e s p) ps (Ow h)
theorem CS{n:Nat}{e:Nat->Bool}:∀ (ps:List PrS) {s:(Nat->Int)×Bool},leF s.1 (rdF n e ps s).1
 |[],s=>λ_ _ h=>h
 |p::ps,s=>λi b h=>CS (s:=stF n e s p) ps i b (Kd i b h)
theorem Ke{a c:Int}(ha:U64 a)(hc:U64 c)(h:orI a c≠c):∃ b,b<64/\c.toNat.testBit b=false/\(orI a c).toNat.testBit b=true:=by
 apply jC
 intro hn
 refine h (Bk (mN ha hc) hc λb hb=>?_)
 rw[cf]
 constructor
 ·intro h1
  cases h2:c.toNat.testBit b
  ·exact(hn ⟨b,hb,h2,h1⟩).elim
  ·rfl
 ·intro h1
  rw[dP,h1,fy]
theorem EE{n:Nat}{e:Nat->Bool}:∀ (ps:List PrS) {s:(Nat->Int)×Bool},kf s.1->(rdF n e ps s).2=true->s.2=true\/∃ i b,i<n/\b<64/\(s.1 i).toNat.testBit b=false/\((rdF n e ps s).1 i).toNat.testBit b=true
 |[],s,_,h=>.inl h
 |p::ps,s,hU,h=>by
  rcases EE (s:=stF n e s p) ps (Ow hU) h with h1|⟨i,b,h1,h2,h3,h4⟩
  ·by_cases hs:s.2=true
   ·exact .inl hs
   ·right
    unfold stF at h1
    split at h1
    ·rename_i hr
     simp only[aG,bz,decide_eq_false_iff_not]at h1
     rcases h1 with h1|h1
     ·exact absurd h1 hs
     ·obtain⟨b,hb,hb1,hb2⟩:=Ke (iR hU _) (hU _) h1
      have hr':=ja.1 hr
      refine⟨p.1.toNat,b,by omega,hb,hb1,CS (s:=stF n e s p) ps _ _ ?_⟩
      unfold stF
      rw[if_pos hr]
      show(di s.1 p.1.toNat _ p.1.toNat).toNat.testBit b=true
      unfold di
      rw[if_pos rfl]
      exact hb2
    ·exact absurd h1 hs
  ·refine .inr ⟨i,b,h1,h2,?_,h4⟩
   cases hb:(s.1 i).toNat.testBit b
   ·rfl
   ·rw[Kd i b hb]at h3;cases h3
theorem Bp{n:Nat}{e:Nat->Bool}:∀ (ps:List PrS) {s:(Nat->Int)×Bool},(rdF n e ps s).2=false->(rdF n e ps s)=s/\s.2=false/\∀ p∈ps,inR n p.1=true->orI (eZ n e s.1 p.2.2.1).1 (s.1 p.1.toNat)=s.1 p.1.toNat
 |[],s,h=>⟨rfl,h,λp hp=>by cases hp⟩
 |p::ps,s,h=>by
  obtain⟨h1,h2,h3⟩:=Bp (s:=stF n e s p) ps h
  have e1:stF n e s p=s/\(inR n p.1=true->orI (eZ n e s.1 p.2.2.1).1 (s.1 p.1.toNat)=s.1 p.1.toNat):=by
   unfold stF at h2 |-
   by_cases hr:inR n p.1=true
   ·rw[if_pos hr]at h2
    simp only[eP,Bool.not_eq_false',decide_eq_true_eq]at h2
    refine⟨?_,λ_=>h2.2⟩
    rw[if_pos hr,h2.2]
    have:di s.1 p.1.toNat (s.1 p.1.toNat)=s.1:=by
     funext j;unfold di;split
     ·rename_i e;rw[e]
     ·rfl
    rw[this]
    simp
   ·rw[if_neg hr]
    exact⟨rfl,λh=>absurd h hr⟩
  have h1:rdF n e (p::ps) s=stF n e s p:=h1
  rw[e1.1]at h1 h2 h3
  refine⟨h1,h2,λq hq hr=>?_⟩
  rcases az.1 hq with rfl|hq
  ·exact e1.2 hr
  ·exact h3 q hq hr
def Kf(ps:List PrS)(n:Nat)(F:Nat->Int):Prop:=∀ i b,(F i).toNat.testBit b=true->Fst ps n (i:Int) b
theorem EG{n:Nat}{ps:List PrS}:∀ (l:List PrS),(∀ p∈l,p∈ps)->∀ {s:(Nat->Int)×Bool},Kf ps n s.1->Kf ps n (rdF n (tE ps n) l s).1
 |[],_,s,h=>h
 |p::l,hl,s,h=>by
  refine EG (s:=stF n (tE ps n) s p) l (λq hq=>hl q (bE _ hq)) λi b hb=>?_
  unfold stF at hb
  split at hb
  ·rename_i hr
   change(di s.1 p.1.toNat _ i).toNat.testBit b=true at hb
   unfold di at hb
   split at hb
   ·rename_i e
    rw[e]
    rw[dP,aG]at hb
    rcases hb with hb|hb
    ·rw[ke]at hb
     rw[jh hr]
     exact Bl (hl p bx) hr (λi hi=>sg.1 hi) h hb
    ·exact h _ _ hb
   ·exact h _ _ hb
  ·exact h _ _ hb
def CU(n:Nat):List (Nat×Nat):=(List.range n).flatMap λi=>(List.range 64).map λb=>(i,b)
theorem vj(n:Nat):(CU n).length=n*64:=by
 unfold CU;simp[List.length_flatMap,oe]
theorem Kg{n i b:Nat}(h1:i<n)(h2:b<64):(i,b)∈CU n:=dV.2 ⟨i,cE.2 h1,gN.2 ⟨b,cE.2 h2,rfl⟩⟩
def nM(n:Nat)(F:Nat->Int):Nat:=ij (CU n) λu=>(F u.1).toNat.testBit u.2=true
theorem vk{n:Nat}{F G:Nat->Int}(h:leF F G){i b:Nat}(h1:i<n)(h2:b<64)(h3:(F i).toNat.testBit b=false)(h4:(G i).toNat.testBit b=true):nM n G<nM n F:=
 oN (λu _ hu=>h _ _ hu) (Kg h1 h2) (by show ¬(F i).toNat.testBit b=true;rw[h3];exact iz) h4
theorem NO{n:Nat}{ps:List PrS}{F:Nat->Int}(hU:kf F)(hs:Kf ps n F)(hc:∀ p∈ps,inR n p.1=true->orI (eZ n (tE ps n) F p.2.2.1).1 (F p.1.toNat)=F p.1.toNat):inN n F=inN n (tF ps n):=by
 have:IsT ps n (tE ps n) F:=by
  refine NJ.isT ⟨λi hi=>sg.1 hi,hU,hs⟩ (λp hp hr he=>?_) (λp hp hr b hb=>?_)
  ·refine sg.2 ?_
   rw[jh hr]
   exact yA hp hr (λi hi=>sg.1 hi) he
  ·rw[<-hc p hp hr,dP,(ke _ _).2 hb,dW]
 exact(J4 this tT).2
set_option maxHeartbeats 1000000 in
theorem QE{g:GrS}(hg:Gs g):p52 N0 (g,())=some ((inN g.2.1.length (tF g.2.2.1 g.2.1.length),()),()):=by
 have hns:=hg.ns
 have hps:=hg.ps
 have h51:=Kc hg
 obtain⟨n,hn⟩:∃ n,n=g.2.1.length:=⟨_,rfl⟩
 unfold p52
 simp only[h51]
 simp only[aJ,bO,decide_eq_true_eq,<-hn,yE,ae,aC]
 rw[<-hn]at hns
 rw[if_pos ⟨by omega,by omega⟩,if_pos (by omega)]
 refine aZ (λm x r=>∃ (k:Nat) (F:Nat->Int),x=((inN n F,()),((k:Int),()))/\kf F/\Kf g.2.2.1 n F/\nM n F+k<=n*64/\m=n*64-k/\r=some ((inN n (tF g.2.2.1 n),()),())) ?_ N0 (n*64) _ _ (by unfold N0;omega) ⟨0,_,rfl,λ_=>Bm,λi b h=>by simp at h,by
  have:=jg (CU n) (λu=>((0:Int)).toNat.testBit u.2=true)
  rw[vj]at this
  exact this,rfl,rfl⟩
 rintro m x r ⟨k,F,rfl,hU,fK,hm,rfl,rfl⟩ K hK
 have hw:IntKind.wrap .i64 (64*(n:Int))=64*(n:Int):=bD (by omega) (by omega)
 have hk1:IntKind.wrap .i64 ((k:Int)+1)=((k+1:Nat):Int):=cD (Nat.lt_succ_of_le (by omega:k<=n*64)) (by omega)
 have c:(k:Int)<=64*(n:Int):=by omega
 simp only[qv,hw,c,if_true,hk1]
 refine bQ (λi=>((inN n (rdF n (tE g.2.2.1 n) (g.2.2.1.take i) (F,false)).1,()),((rdF n (tE g.2.2.1 n) (g.2.2.1.take i) (F,false)).2,((i:Int),())))) (λ_=>some ((inN n (tF g.2.2.1 n),()),())) g.2.2.1.length (λi hi L hL=>?_) N0 0 (aH _) (by unfold N0;omega)
 have hUi:kf (rdF n (tE g.2.2.1 n) (g.2.2.1.take i) (F,false)).1:=Ox (s:=(F,false)) _ hU
 rcases ap i g.2.2.1.length with hil|hil
 ·have ci:(i:Int)<(g.2.2.1.length:Int):=by omega
  have hL:=hL hil
  have hi1:IntKind.wrap .i64 ((i:Int)+1)=((i+1:Nat):Int):=cD hil (by omega)
  have sQ:rdF n (tE g.2.2.1 n) (g.2.2.1.take (i+1)) (F,false)=stF n (tE g.2.2.1 n) (rdF n (tE g.2.2.1 n) (g.2.2.1.take i) (F,false)) g.2.2.1[i]:=by
   unfold rdF
   rw[cZ _ _ hil,iA];rfl
  have hp:=bo hil
  have hbl:=hg.pb _ hp
  have hby:=hg.py _ hp
  simp only[ci,if_true,aQ,ae,ah hil,hi1]
  rw[sQ]at hL
  generalize rdF n (tE g.2.2.1 n) (g.2.2.1.take i) (F,false)=s at *
  generalize g.2.2.1[i]=p at *
  rw[<-hL]
  unfold stF
  by_cases h3:p.1<0
  ·have hr:inR n p.1=false:=by unfold inR;simp;omega
   simp[h3,hr]
  ·by_cases h4:(n:Int)<=p.1
   ·have hr:inR n p.1=false:=by unfold inR;simp;omega
    simp[h3,h4,hr,qv]
   ·have hr:inR n p.1=true:=ja.2 ⟨by omega,by omega⟩
    have hpl:p.1.toNat<n:=by omega
    have h0:0<=p.1:=by omega
    have e84:p84 N0 (bsS n (tE g.2.2.1 n),(inN n s.1,(p.2.2.1,())))=some (((eZ n (tE g.2.2.1 n) s.1 p.2.2.1).1,((eZ n (tE g.2.2.1 n) s.1 p.2.2.1).2,())),()):=CR hUi N0 p.2.2.1 hby (by unfold N0;omega)
    simp only[h3,if_false,qv,h4,decide_false,au,e84,aC,h0,if_true,kE s.1 hpl,yD (iR hUi _) (hUi _),hr,tv]
    cases hs2:s.2
    ·simp
    ·simp
 ·have ci:¬(i:Int)<(g.2.2.1.length:Int):=by omega
  rw[bR hil]at hUi |-
  simp only[ci,if_false]
  have hle:leF F (rdF n (tE g.2.2.1 n) g.2.2.1 (F,false)).1:=CS (s:=(F,false)) _
  have Kh:=EG (n:=n) (ps:=g.2.2.1) g.2.2.1 (λ_ h=>h) (s:=(F,false)) fK
  cases hch:(rdF n (tE g.2.2.1 n) g.2.2.1 (F,false)).2
  ·obtain⟨h1,_,h3⟩:=Bp _ hch
   simp only[aI,if_true,h1]
   rw[NO hU fK h3]
  ·simp only[aB,au,if_false]
   rcases EE (s:=(F,false)) _ hU hch with h|⟨a,b,h1,h2,h3,h4⟩
   ·cases h
   ·have hlt:=vk hle h1 h2 h3 h4
    exact hK _ _ _ (by omega) ⟨k+1,_,rfl,hUi,Kh,by omega,rfl,rfl⟩
end
noncomputable section
abbrev TbP:=(Nat->Bool)×(Nat->Int)×Bool
def chP(n:Nat)(s:TbP)(p:PrS):Bool:=!decide (orI (s.2.1 p.1.toNat) (eZ n s.1 s.2.1 p.2.2.1).1=s.2.1 p.1.toNat)||(emR n s.1 p.2.2.1&&!s.1 p.1.toNat)
def stP(n:Nat)(s:TbP)(p:PrS):TbP:=
 if(inR n p.1&&chP n s p)=true then(di s.1 p.1.toNat (s.1 p.1.toNat||emR n s.1 p.2.2.1),di s.2.1 p.1.toNat (orI (s.2.1 p.1.toNat) (eZ n s.1 s.2.1 p.2.2.1).1),true)else s
def rdP(n:Nat)(ps:List PrS)(s:TbP):TbP:=ps.foldl (stP n) s
theorem qw(a b:Int):orI a b=orI b a:=by unfold orI;rw[Nat.or_comm]
structure LeP(s t:TbP):Prop where
 e:∀ i,s.1 i=true->t.1 i=true
 b:leF s.2.1 t.2.1
theorem LeP.tr{s t u:TbP}(h:LeP s t)(k:LeP t u):LeP s u:=⟨λi hi=>k.e i (h.e i hi),λi b hb=>k.b i b (h.b i b hb)⟩
theorem Oy{n:Nat}{s:TbP}{p:PrS}(h:kf s.2.1):kf (stP n s p).2.1:=by
 unfold stP;split
 ·exact Bo h (mN (h _) (iR h _))
 ·exact h
theorem CV{n:Nat}{s:TbP}{p:PrS}:LeP s (stP n s p):=by
 unfold stP;split
 ·refine⟨λi hi=>?_,λi b hb=>?_⟩
  ·show di s.1 p.1.toNat _ i=true
   unfold di;split
   ·rename_i e;rw[<-e,hi,dW]
   ·exact hi
  ·show(di s.2.1 p.1.toNat _ i).toNat.testBit b=true
   unfold di;split
   ·rename_i e;rw[dP,<-e,hb,dW]
   ·exact hb
 ·exact⟨λ_ h=>h,λ_ _ h=>h⟩
theorem Oz{n:Nat}:∀ (ps:List PrS) {s:TbP},kf s.2.1->kf (rdP n ps s).2.1
 |[],s,h=>h
 |p::ps,s,h=>Oz (s:=stP n s p) ps (Oy h)
theorem CW{n:Nat}:∀ (ps:List PrS) {s:TbP},LeP s (rdP n ps s)
 |[],s=>⟨λ_ h=>h,λ_ _ h=>h⟩
 |p::ps,s=>CV.tr (CW (s:=stP n s p) ps)
def SA(n:Nat)(s t:TbP):Prop:=(∃ i b,i<n/\b<64/\(s.2.1 i).toNat.testBit b=false/\(t.2.1 i).toNat.testBit b=true)\/∃ i,i<n/\s.1 i=false/\t.1 i=true
theorem EH{n:Nat}:∀ (ps:List PrS) {s:TbP},kf s.2.1->(rdP n ps s).2.2=true->s.2.2=true\/SA n s (rdP n ps s)
 |[],s,_,h=>.inl h
 |p::ps,s,hU,h=>by
  have hle:=CW (n:=n) (s:=stP n s p) ps
  rcases EH (s:=stP n s p) ps (Oy hU) h with h1|⟨i,b,h1,h2,h3,h4⟩|⟨i,h1,h3,h4⟩
  ·by_cases hc:(inR n p.1&&chP n s p)=true
   ·right
    have hst:stP n s p=(di s.1 p.1.toNat (s.1 p.1.toNat||emR n s.1 p.2.2.1),di s.2.1 p.1.toNat (orI (s.2.1 p.1.toNat) (eZ n s.1 s.2.1 p.2.2.1).1),true):=by unfold stP;rw[if_pos hc]
    rw[ag]at hc
    have hr':=ja.1 hc.1
    have hch:=hc.2
    unfold chP at hch
    rw[aG]at hch
    rcases hch with hch|hch
    ·have hne:orI (eZ n s.1 s.2.1 p.2.2.1).1 (s.2.1 p.1.toNat)≠s.2.1 p.1.toNat:=by
      rw[qw];simpa using hch
     obtain⟨b,hb,hb1,hb2⟩:=Ke (iR hU _) (hU _) hne
     refine .inl ⟨p.1.toNat,b,by omega,hb,hb1,hle.b _ _ ?_⟩
     rw[hst]
     show(di s.2.1 p.1.toNat _ p.1.toNat).toNat.testBit b=true
     unfold di
     rw[if_pos rfl,qw]
     exact hb2
    ·rw[ag,bz]at hch
     refine .inr ⟨p.1.toNat,by omega,hch.2,hle.e _ ?_⟩
     rw[hst]
     show di s.1 p.1.toNat _ p.1.toNat=true
     unfold di
     rw[if_pos rfl,hch.1,fy]
   ·left
    have:stP n s p=s:=by unfold stP;rw[if_neg hc]
    rw[this]at h1;exact h1
  ·refine .inr (.inl ⟨i,b,h1,h2,?_,h4⟩)
   cases hb:(s.2.1 i).toNat.testBit b
   ·rfl
   ·rw[CV.b i b hb]at h3;cases h3
  ·refine .inr (.inr ⟨i,h1,?_,h4⟩)
   cases hb:s.1 i
   ·rfl
   ·rw[CV.e i hb]at h3;cases h3
theorem Br{n:Nat}:∀ (ps:List PrS) {s:TbP},(rdP n ps s).2.2=false->rdP n ps s=s/\s.2.2=false/\∀ p∈ps,inR n p.1=true->chP n s p=false
 |[],s,h=>⟨rfl,h,λp hp=>by cases hp⟩
 |p::ps,s,h=>by
  obtain⟨h1,h2,h3⟩:=Br (s:=stP n s p) ps h
  have hc:¬(inR n p.1&&chP n s p)=true:=λhc=>by
   unfold stP at h2
   rw[if_pos hc]at h2;cases h2
  have e1:stP n s p=s:=by unfold stP;rw[if_neg hc]
  have h1:rdP n (p::ps) s=stP n s p:=h1
  rw[e1]at h1 h2 h3
  refine⟨h1,h2,λq hq hr=>?_⟩
  rcases az.1 hq with rfl|hq
  ·rw[hr,bI]at hc
   simpa using hc
  ·exact h3 q hq hr
structure NP(ps:List PrS)(n:Nat)(s:TbP):Prop where
 e:∀ i,s.1 i=true->Emp ps n (i:Int)
 b:Kf ps n s.2.1
theorem EI{n:Nat}{ps:List PrS}:∀ (l:List PrS),(∀ p∈l,p∈ps)->∀ {s:TbP},NP ps n s->NP ps n (rdP n l s)
 |[],_,s,h=>h
 |p::l,hl,s,h=>by
  refine EI (s:=stP n s p) l (λq hq=>hl q (bE _ hq)) ?_
  unfold stP
  split
  ·rename_i hc
   rw[ag]at hc
   refine⟨λi hi=>?_,λi b hb=>?_⟩
   ·change di s.1 p.1.toNat _ i=true at hi
    unfold di at hi
    split at hi
    ·rename_i e
     rw[aG]at hi
     rcases hi with hi|hi
     ·rw[e];exact h.e _ hi
     ·rw[e,jh hc.1]
      exact yA (hl p bx) hc.1 h.e hi
    ·exact h.e _ hi
   ·change(di s.2.1 p.1.toNat _ i).toNat.testBit b=true at hb
    unfold di at hb
    split at hb
    ·rename_i e
     rw[e]
     rw[dP,aG]at hb
     rcases hb with hb|hb
     ·exact h.b _ _ hb
     ·rw[ke]at hb
      rw[jh hc.1]
      exact Bl (hl p bx) hc.1 h.e h.b hb
    ·exact h.b _ _ hb
  ·exact h
theorem SB{n:Nat}{ps:List PrS}{s:TbP}(hU:kf s.2.1)(hs:NP ps n s)(hc:∀ p∈ps,inR n p.1=true->chP n s p=false):bsS n s.1=bsS n (tE ps n)/\inN n s.2.1=inN n (tF ps n):=by
 have hc':∀ p∈ps,inR n p.1=true->orI (s.2.1 p.1.toNat) (eZ n s.1 s.2.1 p.2.2.1).1=s.2.1 p.1.toNat/\(emR n s.1 p.2.2.1=true->s.1 p.1.toNat=true):=λp hp hr=>by
  have:=hc p hp hr
  unfold chP at this
  rw[eP]at this
  refine⟨by simpa using this.1,λhe=>?_⟩
  have h2:=this.2
  rw[he,bI]at h2
  simpa using h2
 refine J4 (NJ.isT ⟨hs.e,hU,hs.b⟩ (λp hp hr he=>(hc' p hp hr).2 he) (λp hp hr b hb=>?_)) tT
 rw[<-(hc' p hp hr).1,dP,(ke _ _).2 hb,fy]
def o9(n:Nat)(s:TbP):Nat:=nM n s.2.1+ij (List.range n) λi=>s.1 i=true
theorem Ki{n:Nat}{s t:TbP}(h:LeP s t)(k:SA n s t):o9 n t<o9 n s:=by
 have h1:nM n t.2.1<=nM n s.2.1:=qt λu _ hu=>h.b _ _ hu
 have h2:ij (List.range n) (λi=>t.1 i=true)<=ij (List.range n) (λi=>s.1 i=true):=qt λu _ hu=>h.e _ hu
 unfold o9
 rcases k with⟨i,b,k1,k2,k3,k4⟩|⟨i,k1,k3,k4⟩
 ·have:=vk h.b k1 k2 k3 k4
  omega
 ·have:=oN (U:=List.range n) (P:=λi=>s.1 i=true) (Q:=λi=>t.1 i=true) (λu _ hu=>h.e _ hu) (cE.2 k1) (by show ¬s.1 i=true;rw[k3];exact iz) k4
  omega
set_option maxHeartbeats 2000000 in
theorem QF{g:GrS}(hg:Gs g):p44 N0 (g,())=some (((bsS g.2.1.length (tE g.2.2.1 g.2.1.length),inN g.2.1.length (tF g.2.2.1 g.2.1.length)),()),()):=by
 have hns:=hg.ns
 have hps:=hg.ps
 obtain⟨n,hn⟩:∃ n,n=g.2.1.length:=⟨_,rfl⟩
 unfold p44
 simp only[aJ,bO,decide_eq_true_eq,<-hn,yE,qu,ae]
 rw[<-hn]at hns
 rw[if_pos ⟨by omega,by omega⟩,if_pos (by omega),if_pos ⟨by omega,by omega⟩,if_pos (by omega)]
 refine aZ (λm x r=>∃ (s:TbP),x=((([],[]),((bsS n s.1,inN n s.2.1),())),(s.2.2,()))/\kf s.2.1/\NP g.2.2.1 n s/\(s.2.2=false->bsS n s.1=bsS n (tE g.2.2.1 n)/\inN n s.2.1=inN n (tF g.2.2.1 n))/\m=o9 n s+(if s.2.2=true then 1 else 0)/\r=some (((bsS n (tE g.2.2.1 n),inN n (tF g.2.2.1 n)),()),())) ?_ N0 (o9 n (λ_=>false,λ_=>0,true)+1) _ _ (by
  have h1:=jg (CU n) (λu=>((0:Int)).toNat.testBit u.2=true)
  have h2:=jg (List.range n) (λi=>false=true)
  rw[vj]at h1
  rw[kS]at h2
  unfold o9 nM N0
  simp only at *
  omega) ⟨(λ_=>false,λ_=>0,true),rfl,λ_=>Bm,⟨(λi h=>by cases h),(λi b h=>by simp at h)⟩,λh=>(by cases h),rfl,rfl⟩
 rintro m x r ⟨s0,rfl,hU,fK,ye,rfl,rfl⟩ K hK
 obtain⟨f0,F0,m0⟩:=s0
 cases m0
 ·simp only[au,if_false]
  rw[(ye rfl).1,(ye rfl).2]
 simp only[if_true]
 simp only[if_true]at hK
 clear ye
 refine bQ (λi=>((([],[]),((bsS n (rdP n (g.2.2.1.take i) (f0,F0,false)).1,inN n (rdP n (g.2.2.1.take i) (f0,F0,false)).2.1),())),((rdP n (g.2.2.1.take i) (f0,F0,false)).2.2,((i:Int),())))) (λ_=>some (((bsS n (tE g.2.2.1 n),inN n (tF g.2.2.1 n)),()),())) g.2.2.1.length (λi hi L hL=>?_) N0 0 (aH _) (by unfold N0;omega)
 have hUi:kf (rdP n (g.2.2.1.take i) (f0,F0,false)).2.1:=Oz (s:=(f0,F0,false)) _ hU
 rcases ap i g.2.2.1.length with hil|hil
 ·have ci:(i:Int)<(g.2.2.1.length:Int):=by omega
  have hL:=hL hil
  have hi1:IntKind.wrap .i64 ((i:Int)+1)=((i+1:Nat):Int):=cD hil (by omega)
  have sQ:rdP n (g.2.2.1.take (i+1)) (f0,F0,false)=stP n (rdP n (g.2.2.1.take i) (f0,F0,false)) g.2.2.1[i]:=by
   unfold rdP
   rw[cZ _ _ hil,iA];rfl
  have hp:=bo hil
  have hbl:=hg.pb _ hp
  have hby:=hg.py _ hp
  simp only[ci,if_true,aQ,ae,ah hil,hi1]
  rw[sQ]at hL
  generalize rdP n (g.2.2.1.take i) (f0,F0,false)=s at *
  generalize g.2.2.1[i]=p at *
  obtain⟨f,F,m⟩:=s
  rw[<-hL]
  clear hL hK
  unfold stP chP
  by_cases h3:p.1<0
  ·have hr:inR n p.1=false:=by unfold inR;simp;omega
   simp[h3,hr]
  ·by_cases h4:(n:Int)<=p.1
   ·have hr:inR n p.1=false:=by unfold inR;simp;omega
    simp[h3,h4,hr]
   ·have hr:inR n p.1=true:=ja.2 ⟨by omega,by omega⟩
    have hpl:p.1.toNat<n:=by omega
    have h0:0<=p.1:=by omega
    have e73:=J8 (n:=n) (f:=f) hUi hby (by unfold maxLen;omega)
    simp only[h3,if_false,h4,decide_false,au,e73,aC,h0,if_true,kE F hpl,jy f hpl,mG (hUi _) (iR hUi _),hr,tv,oP,yy]
    by_cases hq:orI (F p.1.toNat) (eZ n f F p.2.2.1).1=F p.1.toNat
    ·cases he:emR n f p.2.2.1
     ·simp[hq]
     ·cases hf:f p.1.toNat
      ·simp[hq]
      ·simp[hq]
    ·cases he:emR n f p.2.2.1
     ·cases hf:f p.1.toNat
      ·simp[hq]
      ·simp[hq]
     ·cases hf:f p.1.toNat
      ·simp[hq]
      ·simp[hq]
 ·have ci:¬(i:Int)<(g.2.2.1.length:Int):=by omega
  rw[bR hil]at hUi |-
  simp only[ci,if_false]
  have hle:LeP (f0,F0,false) (rdP n g.2.2.1 (f0,F0,false)):=CW (s:=(f0,F0,false)) _
  have Kh:=EI (n:=n) (ps:=g.2.2.1) g.2.2.1 (λ_ h=>h) (s:=(f0,F0,false)) ⟨fK.e,fK.b⟩
  cases hch:(rdP n g.2.2.1 (f0,F0,false)).2.2
  ·obtain⟨h1,_,h3⟩:=Br _ hch
   refine hK (o9 n (f0,F0,true)) _ _ (by omega) ⟨(f0,F0,false),?_,hU,⟨fK.e,fK.b⟩,λ_=>SB (s:=(f0,F0,false)) hU ⟨fK.e,fK.b⟩ h3,rfl,rfl⟩
   rw[h1]
  ·rcases EH (s:=(f0,F0,false)) _ hU hch with h|h
   ·cases h
   ·have hlt:o9 n (rdP n g.2.2.1 (f0,F0,false))<o9 n (f0,F0,true):=Ki (s:=(f0,F0,false)) hle h
    refine hK (o9 n (rdP n g.2.2.1 (f0,F0,false))+1) _ _ (by omega) ⟨rdP n g.2.2.1 (f0,F0,false),?_,hUi,Kh,λh=>?_,?_,rfl⟩
    ·rw[hch]
    ·rw[hch]at h;cases h
    ·rw[hch,if_pos rfl]
end
noncomputable section
def ltB(x y:ItS):Bool:=decide (x.1<y.1)||(decide (x.1=y.1)&&decide (x.2.1<y.2.1))
def eqB(x y:ItS):Bool:=decide (x.1=y.1)&&decide (x.2.1=y.2.1)
theorem kF{x y:ItS}:ltB x y=true↔ltK x y:=by unfold ltB ltK;simp
theorem oQ{x y:ItS}:eqB x y=true↔x.1=y.1/\x.2.1=y.2.1:=by unfold eqB;simp
def mH(x:ItS):List ItS->List ItS
 |[]=>[x]
 |y::r=>if ltB y x=true then y::mH x r else if eqB y x=true then(y.1,(y.2.1,orI y.2.2 x.2.2))::r else x::y::r
def fN(l:List ItS):List ItS:=l.foldl (λo x=>mH x o) []
theorem GZ(l:List ItS)(x:ItS):fN (l++[x])=mH x (fN l):=by unfold fN;rw[iA];rfl
theorem Bs(x:ItS):∀ l,(mH x l).length<=l.length+1
 |[]=>by simp[mH]
 |y::r=>by
  have:=Bs x r
  unfold mH
  split
  ·simp only[aO];omega
  ·split <;> simp
theorem Bt(l:List ItS):(fN l).length<=l.length:=by
 have key:∀ (l:List ItS) (o:List ItS),(l.foldl (λo x=>mH x o) o).length<=o.length+l.length:=by
  intro l
  induction l with
  |nil=>intro o;simp
  |cons x l ih=>
   intro o
   have h1:=ih (mH x o)
   have h2:=Bs x o
   simp only[q9,aO]
   omega
 have:=key l []
 simpa [fN]using this
def jn(x:ItS):List ItS->Nat
 |[]=>0
 |y::r=>if ltB y x=true then jn x r+1 else 0
theorem yF(x:ItS):∀ l,jn x l<=l.length
 |[]=>aq _
 |y::r=>by
  have:=yF x r
  unfold jn
  split
  ·simp;omega
  ·simp
theorem EJ(x:ItS):∀ (l:List ItS) (k:Nat) (h:k<l.length),k<jn x l->ltK l[k] x
 |[],k,h,_=>by simp at h
 |y::r,k,h,hk=>by
  unfold jn at hk
  split at hk
  ·rename_i hy
   cases k with
   |zero=>exact kF.1 hy
   |succ k=>exact EJ x r k (by simpa using h) (by omega)
  ·omega
theorem EK(x:ItS):∀ (l:List ItS),l.Pairwise ltK->∀ (k:Nat) (h:k<l.length),jn x l<=k->¬ltK l[k] x
 |[],_,k,h,_=>by simp at h
 |y::r,hs,k,h,hk=>by
  obtain⟨h1,h2⟩:=dH.1 hs
  unfold jn at hk
  split at hk
  ·rename_i hy
   cases k with
   |zero=>omega
   |succ k=>exact EK x r h2 k (by simpa using h) (by omega)
  ·rename_i hy
   intro hlt
   cases k with
   |zero=>exact hy (kF.2 hlt)
   |succ k=>exact hy (kF.2 (pv (h1 _ (bo (by simpa using h))) hlt))
theorem EL(x:ItS):∀ (l:List ItS),mH x l=(match l[jn x l]? with
 |some y=>if eqB y x=true then l.set (jn x l) (y.1,(y.2.1,orI y.2.2 x.2.2))else l.take (jn x l)++[x]++l.drop (jn x l)
 |none=>l.take (jn x l)++[x]++l.drop (jn x l))
 |[]=>rfl
 |y::r=>by
  have ih:=EL x r
  unfold mH jn
  by_cases hy:ltB y x=true
  ·simp only[hy,if_true,im,List.set_cons_succ,qS,List.drop_succ_cons,dU]
   rw[ih]
   cases hz:r[jn x r]? with
   |none=>rfl
   |some z=>
    simp only
    split <;> rfl
  ·simp only[hy,au,if_false,gF,qT,List.take_zero,du,bM]
   rfl
theorem Kj{A:Ato}{o:List ItS}{x:ItS}(h:Can A o)(hx:kM x):Can (λp d q=>A p d q\/At [x] p d q) (mH x o):=by
 have key:∀ (X Y:List ItS),Can A (X++Y)->(∀ a∈X,ltK a x)->Can (λp d q=>A p d q\/At [x] p d q) (X++mH x Y):=by
  intro X Y
  induction Y generalizing X with
  |nil=>intro h h1;exact EA h hx h1 (λb hb=>by cases hb)
  |cons y Y ih=>
   intro h h1
   unfold mH
   by_cases hy:ltB y x=true
   ·rw[if_pos hy]
    have:=ih (X++[y]) (by simpa using h) (λa ha=>by
     rcases av.1 ha with ha|ha
     ·exact h1 a ha
     ·rw[aM.1 ha];exact kF.1 hy)
    simpa using this
   ·rw[if_neg hy]
    by_cases he:eqB y x=true
    ·rw[if_pos he]
     exact Qx h hx (oQ.1 he).1 (oQ.1 he).2
    ·rw[if_neg he]
     have hlt:ltK x y:=by
      rcases JY x y with h|h|h
      ·exact h
      ·exact absurd (oQ.2 ⟨h.1.symm,h.2.symm⟩) he
      ·exact absurd (kF.2 h) hy
     refine EA h hx h1 λb hb=>?_
     rcases az.1 hb with rfl|hb
     ·exact hlt
     ·exact pv hlt ((dH.1 (gJ.1 h.st).2.1).1 b hb)
 exact key [] o h (λa ha=>by cases ha)
theorem kg{l:List ItS}(h:∀ x∈l,kM x):Can (At l) (fN l):=by
 have key:∀ (l:List ItS) (A:Ato) (o:List ItS),Can A o->(∀ x∈l,kM x)->Can (λp d q=>A p d q\/At l p d q) (l.foldl (λo x=>mH x o) o):=by
  intro l
  induction l with
  |nil=>intro A o h _;exact h.congr λp d q=>⟨.inl,λh=>h.elim id λh=>(CQ h).elim⟩
  |cons x l ih=>
   intro A o h hb
   refine(ih _ _ (Kj h (hb x bx)) (λy hy=>hb y (bE _ hy))).congr λp d q=>?_
   rw[show x::l=[x]++l from rfl,jm]
   constructor
   ·rintro((h|h)|h)
    ·exact .inl h
    ·exact .inr (.inl h)
    ·exact .inr (.inr h)
   ·rintro(h|h|h)
    ·exact .inl (.inl h)
    ·exact .inl (.inr h)
    ·exact .inr h
 exact(key l _ [] EB h).congr λp d q=>⟨λh=>h.elim (λh=>h.elim) id,.inr⟩
def G0(a b:Int):Int:=if a<b then -1 else if b<a then 1 else 0
theorem NQ(a b:Int):IY N0 (a,(b,()))=some ((G0 a b,()),()):=by
 have h138:∀ a:Int,IX N0 (a,())=some ((false,()),()):=λa=>by unfold IX;simp
 unfold IY G0
 simp only[aJ,bO,decide_eq_true_eq,h138,aC]
 by_cases h1:a<b
 ·simp[h1]
 ·by_cases h2:b<a
  ·simp[h1,h2]
  ·simp[h1,h2]
def xg(x y:ItS):Int:=if x.1=y.1 then G0 x.2.1 y.2.1 else G0 x.1 y.1
theorem EM(x y:ItS):IZ N0 (x,(y,()))=some ((xg x y,()),()):=by
 unfold IZ xg
 simp only[aJ,bO,NQ,aC]
 by_cases h:x.1=y.1 <;> simp[h]
theorem Bu{x y:ItS}:xg x y<0↔ltK x y:=by
 unfold xg G0 ltK
 split
 ·split
  ·omega
  ·split <;> omega
 ·split
  ·omega
  ·split <;> omega
theorem Kk{x y:ItS}:xg x y=0↔eqB x y=true:=by
 rw[oQ]
 unfold xg G0
 split
 ·split
  ·omega
  ·split <;> omega
 ·split
  ·omega
  ·split <;> omega
theorem NR{o:List ItS}(hs:o.Pairwise ltK)(hl:o.length<=1000000)(x:ItS):MK N0 (o,(x,((),())))=some ((((jn x o:Nat):Int),((match o[jn x o]? with|some y=>eqB y x|none=>false),())),()):=by
 unfold MK
 simp only[aJ,bO,decide_eq_true_eq]
 refine aZ (λm z r=>∃ (i j:Nat),z=((),((i:Int),((j:Int),())))/\i<=j/\j<=o.length/\(∀ k (h:k<o.length),k<i->ltK o[k] x)/\(∀ k (h:k<o.length),j<=k->¬ltK o[k] x)/\m=j-i/\r=some ((((jn x o:Nat):Int),((match o[jn x o]? with|some y=>eqB y x|none=>false),())),())) ?_ N0 (o.length-0) _ _ (by unfold N0;omega) ⟨0,o.length,rfl,aH _,aq _,λk _ h=>by omega,λk h1 h2=>by omega,rfl,rfl⟩
 rintro m z r ⟨i,j,rfl,hij,hj,h1,h2,rfl,rfl⟩ K hK
 rcases ap i j with h|h
 ·have c:(i:Int)<(j:Int):=by omega
  obtain⟨hh,hhe⟩:∃ hh,hh=(i+j) / 2:=⟨_,rfl⟩
  have hhl:hh<o.length:=by omega
  have e1:IntKind.wrap .i64 ((i:Int)+(j:Int))=((i+j:Nat):Int):=by rw[bD (by omega) (by omega)];simp
  have e2:IntKind.wrap .u64 ((i+j:Nat):Int)=((i+j:Nat):Int):=wrap_u64 ⟨by omega,by omega⟩
  have e3:Int.fdiv ((i+j:Nat):Int) (2 ^ (Nat.min (Int.toNat 1) (IntKind.bits .u64)))=(hh:Int):=by
   have:(2:Int) ^ (Nat.min (Int.toNat 1) (IntKind.bits .u64))=2:=by decide
   rw[this,nR _ (by omega),hhe]
   omega
  have e4:IntKind.wrap .i64 (hh:Int)=(hh:Int):=bD (by omega) (by omega)
  have e5:IntKind.wrap .i64 ((hh:Int)+1)=((hh+1:Nat):Int):=cD hhl hl
  simp only[c,if_true,show ¬(1:Int)<0 by omega,if_false,e1,e2,e3,e4,aQ,ae,ah hhl,EM,aC,e5]
  by_cases hlt:ltK o[hh] x
  ·rw[if_pos (Bu.2 hlt)]
   exact hK _ _ _ (by omega) ⟨hh+1,j,rfl,by omega,hj,λk hk hki=>by
    by_cases e:k=hh
    ·subst e;exact hlt
    ·exact pv (nS.1 hs k hh hk hhl (by omega)) hlt,h2,rfl,rfl⟩
  ·rw[if_neg λh=>hlt (Bu.1 h)]
   exact hK _ _ _ (by omega) ⟨i,hh,rfl,by omega,by omega,h1,λk hk hki hlk=>by
    by_cases e:k=hh
    ·subst e;exact hlt hlk
    ·exact hlt (pv (nS.1 hs hh k hhl hk (by omega)) hlk),rfl,rfl⟩
 ·have c:¬(i:Int)<(j:Int):=by omega
  have hp:jn x o=i:=by
   rcases Nat.lt_trichotomy (jn x o) i with hlt|he|hgt
   ·exact absurd (h1 _ (by omega) hlt) (EK x o hs _ (by omega) (aq _))
   ·exact he
   ·have:=yF x o
    exact absurd (EJ x o i (by omega) hgt) (h2 i (by omega) h)
  simp only[c,if_false,hp]
  rcases ap i o.length with hi|hi
  ·have ci:(i:Int)<(o.length:Int):=by omega
   simp only[ci,if_true,aQ,ae,ah hi,EM,aC,Kk]
   simp
  ·have ci:¬(i:Int)<(o.length:Int):=by omega
   rw[bn hi]
   simp only[ci,if_false]
theorem Kl{l:List ItS}(hb:∀ x∈l,kM x)(hl:l.length<=1000000):p79 N0 (l,())=some ((fN l,()),()):=by
 unfold p79
 simp only[aJ,bO,decide_eq_true_eq]
 refine bQ (λj=>((),(fN (l.take j),((j:Int),())))) (λ_=>some ((fN l,()),())) l.length (λj hj K hK=>?_) N0 0 (aH _) (by unfold N0;omega)
 rcases ap j l.length with h|h
 ·have c:(j:Int)<(l.length:Int):=by omega
  have hK:=hK h
  have hj1:IntKind.wrap .i64 ((j:Int)+1)=((j+1:Nat):Int):=cD h hl
  rw[cZ _ _ h,GZ]at hK
  have Km:=kg (l:=l.take j) λx hx=>hb x (qN hx)
  have hcl:=Bt (l.take j)
  rw[aL]at hcl
  have hx:=hb _ (bo h)
  simp only[c,if_true,aQ,ae,ah h,hj1]
  generalize l[j]=x at *
  generalize fN (l.take j)=o at *
  rw[NR Km.st (by omega) x]
  simp only[aC]
  rw[EL]at hK
  have hpl:=yF x o
  have h102:AH N0 (o,(((jn x o:Nat):Int),([x],())))=some ((o.take (jn x o)++[x]++o.drop (jn x o),()),()):=by
   unfold AH
   simp only[ae]
   rw[if_pos ⟨rfl,by omega,hpl,by omega⟩]
  rw[<-hK]
  cases hp:o[jn x o]? with
  |none=>
   simp only[au,if_false]
   rw[h102]
   rfl
  |some y=>
   have hy:=Km.bd y (cJ hp)
   cases he:eqB y x
   ·simp only[au,if_false,he]
    rw[h102]
    rfl
   ·simp only[if_true,he,aQ,ae,hp,mG hy hx]
 ·have c:¬(j:Int)<(l.length:Int):=by omega
  simp only[c,if_false]
  rw[bR h]
end
noncomputable section
def pB(o:List ItS)(x:ItS):Bool:=match o[o.length-1]? with
 |none=>true
 |some y=>ltB y x
theorem vm{o:List ItS}(hs:o.Pairwise ltK){x:ItS}:pB o x=true↔∀ y∈o,ltK y x:=by
 unfold pB
 by_cases ho:o=[]
 ·subst ho;simp
 ·have hl:o.length-1<o.length:=by have:=List.length_pos_iff.2 ho;omega
  rw[ah hl]
  simp only[kF]
  constructor
  ·intro h y hy
   obtain⟨i,hi,rfl⟩:=fu.1 hy
   by_cases e:i=o.length-1
   ·subst e;exact h
   ·exact pv (nS.1 hs i (o.length-1) hi hl (by omega)) h
  ·intro h;exact h _ (bo hl)
def lsN(l o:List ItS):Nat->Int
 |0=>-1
 |j+1=>match l[j]? with
  |some x=>if(pB o x&&(decide (lsN l o j<0)||(match l[(lsN l o j).toNat]? with
   |some z=>ltB x z
   |none=>false)))=true then(j:Int)else lsN l o j
  |none=>lsN l o j
theorem yG(l o:List ItS):∀ j,-1<=lsN l o j/\lsN l o j<j
 |0=>⟨by show(-1:Int)<=-1;omega,by show(-1:Int)<0;omega⟩
 |j+1=>by
  have ih:=yG l o j
  unfold lsN
  split
  ·split <;> omega
  ·omega
theorem Bv(l o:List ItS):∀ j,j<=l.length->(lsN l o j<0->∀ k (h:k<l.length),k<j->pB o l[k]=false)/\
 (0<=lsN l o j->∃ i,∃ h:i<l.length,lsN l o j=(i:Int)/\i<j/\pB o l[i]=true/\∀ k (h':k<l.length),k<j->pB o l[k]=true->¬ltK l[k] l[i])
 |0,_=>⟨λ_ k h hk=>by omega,λh=>by have:=yG l o 0;omega⟩
 |j+1,hj=>by
  obtain⟨ih1,ih2⟩:=Bv l o j (by omega)
  have hjl:j<l.length:=by omega
  unfold lsN
  rw[ah hjl]
  simp only
  by_cases hc:(pB o l[j]&&(decide (lsN l o j<0)||(match l[(lsN l o j).toNat]? with
   |some z=>ltB l[j] z
   |none=>false)))=true
  ·rw[if_pos hc]
   rw[ag,aG]at hc
   refine⟨λh=>by omega,λ_=>⟨j,hjl,rfl,by omega,hc.1,λk hk hkj hak=>?_⟩⟩
   by_cases e:k=j
   ·subst e;exact λh=>qs h
   ·rcases hc.2 with h|h
    ·have:=ih1 (by simpa using h) k hk (by omega)
     rw[this]at hak;cases hak
    ·by_cases CX:lsN l o j<0
     ·have:=ih1 CX k hk (by omega)
      rw[this]at hak;cases hak
     ·obtain⟨i,hi,e1,e2,e3,e4⟩:=ih2 (by omega)
      rw[e1,ae,ah hi]at h
      have h:=kF.1 h
      intro hlt
      exact e4 k hk (by omega) hak (pv hlt h)
  ·rw[if_neg hc]
   constructor
   ·intro CX k hk hkj
    by_cases e:k=j
    ·subst e
     cases ha:pB o l[k]
     ·rfl
     ·exact absurd (by rw[ha];simp[CX]) hc
    ·exact ih1 CX k hk (by omega)
   ·intro hnn
    obtain⟨i,hi,e1,e2,e3,e4⟩:=ih2 hnn
    refine⟨i,hi,e1,by omega,e3,λk hk hkj hak=>?_⟩
    by_cases e:k=j
    ·subst e
     intro hlt
     refine hc ?_
     rw[hak,e1,ae,ah hi]
     simp only[kF.2 hlt,fy,Bool.and_self]
    ·exact e4 k hk (by omega) hak
def orN(l:List ItS)(x:ItS):Nat->Int
 |0=>0
 |j+1=>match l[j]? with
  |some z=>if eqB z x=true then orI (orN l x j) z.2.2 else orN l x j
  |none=>orN l x j
theorem Ko(l:List ItS)(x:ItS)(j:Nat):orN l x (j+1)=(match l[j]? with
 |some z=>if eqB z x=true then orI (orN l x j) z.2.2 else orN l x j
 |none=>orN l x j):=rfl
theorem Bw{l:List ItS}(hb:∀ x∈l,kM x)(x:ItS):∀ j,U64 (orN l x j)
 |0=>Bm
 |j+1=>by
  unfold orN
  split
  ·rename_i z hz
   split
   ·exact mN (Bw hb x j) (hb z (cJ hz))
   ·exact Bw hb x j
  ·exact Bw hb x j
theorem EN(l:List ItS)(x:ItS)(b:Nat):∀ j,(orN l x j).toNat.testBit b=true↔∃ k,k<j/\∃ z,l[k]?=some z/\z.1=x.1/\z.2.1=x.2.1/\z.2.2.toNat.testBit b=true
 |0=>by simp[orN]
 |j+1=>by
  have ih:=EN l x b j
  have key:(∃ k,k<j+1/\∃ z,l[k]?=some z/\z.1=x.1/\z.2.1=x.2.1/\z.2.2.toNat.testBit b=true)↔(∃ k,k<j/\∃ z,l[k]?=some z/\z.1=x.1/\z.2.1=x.2.1/\z.2.2.toNat.testBit b=true)\/(∃ z,l[j]?=some z/\z.1=x.1/\z.2.1=x.2.1/\z.2.2.toNat.testBit b=true):=by
   constructor
   ·rintro⟨k,hk,h⟩
    by_cases e:k=j
    ·subst e;exact .inr h
    ·exact .inl ⟨k,by omega,h⟩
   ·rintro(⟨k,hk,h⟩|h)
    ·exact⟨k,by omega,h⟩
    ·exact⟨j,by omega,h⟩
  rw[key,<-ih,Ko]
  cases hz:l[j]? with
  |none=>simp
  |some z=>
   simp only
   by_cases he:eqB z x=true
   ·rw[if_pos he,dP,aG]
    have:=oQ.1 he
    constructor
    ·rintro(h|h)
     ·exact .inl h
     ·exact .inr ⟨z,rfl,this.1,this.2,h⟩
    ·rintro(h|⟨z',e,_,_,h⟩)
     ·exact .inl h
     ·cases e;exact .inr h
   ·rw[if_neg he]
    constructor
    ·exact .inl
    ·rintro(h|⟨z',e,h1,h2,_⟩)
     ·exact h
     ·cases e;exact absurd (oQ.2 ⟨h1,h2⟩) he
structure Part(l o:List ItS):Prop where
 st:o.Pairwise ltK
 bd:∀ x∈o,kM x
 le:∀ y∈o,(∃ x∈l,x.1=y.1/\x.2.1=y.2.1)/\∀ b,y.2.2.toNat.testBit b=true↔∃ x∈l,x.1=y.1/\x.2.1=y.2.1/\x.2.2.toNat.testBit b=true
 al:∀ x∈l,(∃ y∈o,y.1=x.1/\y.2.1=x.2.1)\/∀ y∈o,ltK y x
theorem Part.can{l o:List ItS}(h:Part l o)(fW:∀ x∈l,∃ y∈o,y.1=x.1/\y.2.1=x.2.1):Can (At l) o:=by
 refine⟨h.st,h.bd,λp d q=>?_⟩
 cases q with
 |none=>
  constructor
  ·rintro⟨y,hy,rfl,rfl⟩;exact(h.le y hy).1
  ·rintro⟨x,hx,rfl,rfl⟩
   obtain⟨y,hy,e1,e2⟩:=fW x hx
   exact⟨y,hy,e1,e2⟩
 |some b=>
  constructor
  ·rintro⟨y,hy,rfl,rfl,hb⟩;exact((h.le y hy).2 b).1 hb
  ·rintro⟨x,hx,rfl,rfl,hb⟩
   obtain⟨y,hy,e1,e2⟩:=fW x hx
   exact⟨y,hy,e1,e2,((h.le y hy).2 b).2 ⟨x,hx,e1.symm,e2.symm,hb⟩⟩
theorem CY{o:List ItS}(h:o.Pairwise ltK):o.Nodup:=h.imp λ{a b} hab e=>by subst e;exact qs hab
theorem Part.full{l o:List ItS}(h:Part l o)(hl:l.length<=o.length):∀ x∈l,∃ y∈o,y.1=x.1/\y.2.1=x.2.1:=by
 intro x hx
 rcases h.al x hx with h1|h1
 ·exact h1
 ·exfalso
  have hs:(o++[x]).Pairwise ltK:=gJ.2 ⟨h.st,nT _ _,λa ha b hb=>by rw[aM.1 hb];exact h1 a ha⟩
  have:=rR (λ(y:ItS) (c:Nat)=>y∈o++[x]/\∃ z,l[c]?=some z/\z.1=y.1/\z.2.1=y.2.1) (λy y' c hy hy'=>by
   obtain⟨m1,z,e1,e2,e3⟩:=hy
   obtain⟨m2,z',f1,f2,f3⟩:=hy'
   rw[e1]at f1;cases f1
   exact px hs y m1 y' m2 (by omega) (by omega)) l.length (o++[x]) (CY hs) (λy hy=>by
   have:∃ z∈l,z.1=y.1/\z.2.1=y.2.1:=by
    rcases av.1 hy with hy|hy
    ·exact(h.le y hy).1
    ·rw[aM.1 hy];exact⟨x,hx,rfl,rfl⟩
   obtain⟨z,hz,e1,e2⟩:=this
   obtain⟨c,hc,rfl⟩:=fu.1 hz
   exact⟨c,hc,hy,_,ah hc,e1,e2⟩)
  rw[ak]at this
  simp at this
  omega
theorem Part.more{l o:List ItS}(h:Part l o)(hb:∀ x∈l,kM x){i:Nat}(hi:i<l.length)(ha:pB o l[i]=true)(QG:∀ k (h':k<l.length),pB o l[k]=true->¬ltK l[k] l[i]):
 Part l (o++[(l[i].1,(l[i].2.1,orN l l[i] l.length))]):=by
 have hab:=(vm h.st).1 ha
 refine⟨gJ.2 ⟨h.st,nT _ _,λa ha' b hb'=>by rw[aM.1 hb'];exact hab a ha'⟩,λy hy=>?_,λy hy=>?_,λx hx=>?_⟩
 ·rcases av.1 hy with hy|hy
  ·exact h.bd y hy
  ·rw[aM.1 hy];exact Bw hb _ _
 ·rcases av.1 hy with hy|hy
  ·exact h.le y hy
  ·rw[aM.1 hy]
   refine⟨⟨_,bo hi,rfl,rfl⟩,λb=>?_⟩
   show(orN l l[i] l.length).toNat.testBit b=true↔_
   rw[EN]
   constructor
   ·rintro⟨k,_,z,hz,e⟩;exact⟨z,cJ hz,e⟩
   ·rintro⟨z,hz,e⟩
    obtain⟨k,hk,rfl⟩:=fu.1 hz
    exact⟨k,hk,_,ah hk,e⟩
 ·rcases h.al x hx with⟨y,hy,e⟩|h1
  ·exact .inl ⟨y,av.2 (.inl hy),e⟩
  ·obtain⟨k,hk,rfl⟩:=fu.1 hx
   have hk':=QG k hk ((vm h.st).2 h1)
   rcases JY l[i] l[k]with e|e|e
   ·refine .inr λy hy=>?_
    rcases av.1 hy with hy|hy
    ·exact h1 y hy
    ·rw[aM.1 hy];exact e
   ·exact .inl ⟨_,av.2 (.inr (aM.2 rfl)),e⟩
   ·exact absurd e hk'
set_option maxHeartbeats 2000000 in
theorem CZ{l:List ItS}(hb:∀ x∈l,kM x)(hl:l.length<=1000000):p53 N0 (l,())=some ((fN l,()),()):=by
 unfold p53
 simp only[aJ,bO,decide_eq_true_eq]
 have Km:=kg hb
 refine aZ (λm z r=>∃ (o:List ItS),z=((),(o,(((o.length:Nat):Int),())))/\Part l o/\o.length<=l.length/\m=l.length-o.length/\r=some ((fN l,()),())) ?_ N0 l.length _ _ (by unfold N0;omega) ⟨[],rfl,⟨.nil,(λx h=>by cases h),(λx h=>by cases h),λx hx=>.inr λy hy=>by cases hy⟩,aH _,rfl,rfl⟩
 rintro m z r ⟨o,rfl,hp,hol,rfl,rfl⟩ K hK
 rcases ap o.length l.length with h|h
 case inr=>
  have c:¬(o.length:Int)<(l.length:Int):=by omega
  simp only[c,if_false]
  rw[(hp.can (hp.full h)).Bj Km]
 have c:(o.length:Int)<(l.length:Int):=by omega
 have ho1:IntKind.wrap .i64 ((o.length:Int)+1)=((o.length+1:Nat):Int):=cD h (by omega)
 simp only[c,if_true,ho1]
 refine bQ (λj=>((o,()),(lsN l o j,((j:Int),())))) (λ_=>some ((fN l,()),())) l.length (λj hj L hL=>?_) N0 0 (aH _) (by unfold N0;omega)
 rcases ap j l.length with hjl|hjl
 ·have cj:(j:Int)<(l.length:Int):=by omega
  have hL:=hL hjl
  have hj1:IntKind.wrap .i64 ((j:Int)+1)=((j+1:Nat):Int):=cD hjl (by omega)
  have hr:=yG l o j
  simp only[cj,if_true,aQ,ae,ah hjl,hj1]
  unfold lsN at hL
  rw[ah hjl]at hL
  simp only at hL
  generalize l[j]=x at *
  rw[<-hL]
  clear hL hK
  -- is it Vt
  have ab:∀ (T1 T2:Option ((List ItS×Unit)×Unit)),(if((o.length:Nat):Int)=0 then T1 else if 0<=IntKind.wrap .i64 ((o.length:Int)-1)then(match o[(IntKind.wrap .i64 ((o.length:Int)-1)).toNat]? with
   |some y=>if y.1<x.1 then T1 else if 0<=IntKind.wrap .i64 ((o.length:Int)-1)then(match o[(IntKind.wrap .i64 ((o.length:Int)-1)).toNat]? with
    |some y=>if x.1=y.1 then(if 0<=IntKind.wrap .i64 ((o.length:Int)-1)then(match o[(IntKind.wrap .i64 ((o.length:Int)-1)).toNat]? with
     |some y=>if y.2.1<x.2.1 then T1 else T2
     |none=>none)else none)else T2
    |none=>none)else none
   |none=>none)else none)=if pB o x=true then T1 else T2:=λT1 T2=>by
   by_cases ho:o.length=0
   ·have:o=[]:=qL.1 ho
    subst this
    simp[pB]
   ·have hw:IntKind.wrap .i64 ((o.length:Int)-1)=((o.length-1:Nat):Int):=by rw[bD (by omega) (by omega)];omega
    have Vu:o.length-1<o.length:=by omega
    unfold pB
    have hz:¬((o.length:Nat):Int)=0:=by omega
    simp only[hz,if_false,hw,aQ,ae,if_true,ah Vu]
    generalize o[o.length-1]=y
    unfold ltB
    by_cases h1:y.1<x.1
    ·simp[h1]
    ·by_cases h2:x.1=y.1
     ·by_cases h3:y.2.1<x.2.1
      ·simp[h2,h3]
      ·simp[h2,h3]
     ·have h2':¬y.1=x.1:=λe=>h2 e.symm
      simp[h1,h2,h2']
  by_cases hn:lsN l o j<0
  ·simp only[hn,if_true,au,if_false]
   refine(ab _ _).trans ?_
   cases pB o x <;> simp
  ·have hnn:0<=lsN l o j:=by omega
   have hil:(lsN l o j).toNat<l.length:=by omega
   rw[ah hil]
   generalize l[(lsN l o j).toNat]=w
   simp only[hn,if_true,au,if_false,hnn,decide_false,cT]
   refine(ab _ _).trans ?_
   unfold ltB
   cases pB o x
   ·simp
   ·by_cases h1:x.1<w.1
    ·simp[h1]
    ·by_cases h2:x.1=w.1
     ·by_cases h3:x.2.1<w.2.1
      ·simp[h2,h3]
      ·simp[h2,h3]
     ·simp[h1,h2]
 ·have cj:¬(j:Int)<(l.length:Int):=by omega
  have hje:j=l.length:=by omega
  subst hje
  simp only[cj,if_false]
  obtain⟨s1,s2⟩:=Bv l o l.length (aq _)
  by_cases hn:lsN l o l.length<0
  ·rw[if_pos hn]
   have fW:∀ x∈l,∃ y∈o,y.1=x.1/\y.2.1=x.2.1:=λx hx=>by
    rcases hp.al x hx with h1|h1
    ·exact h1
    ·obtain⟨k,hk,rfl⟩:=fu.1 hx
     have:=s1 hn k hk hk
     rw[(vm hp.st).2 h1]at this;cases this
   rw[(hp.can fW).Bj Km]
  ·obtain⟨i,hi,e1,_,e3,e4⟩:=s2 (by omega)
   have hpm:=hp.more hb hi e3 (λk hk=>e4 k hk hk)
   simp only[e1,show ¬(i:Int)<0 by omega,if_false,aQ,ae,if_true,ah hi]
   refine bQ (λj=>((o,((l[i].1,(l[i].2.1,orN l l[i] j)),())),((j:Int),()))) (λ_=>some ((fN l,()),())) l.length (λj hj M hM=>?_) N0 0 (aH _) (by unfold N0;omega)
   rcases ap j l.length with hjl|hjl
   ·have cj:(j:Int)<(l.length:Int):=by omega
    have hM:=hM hjl
    have hj1:IntKind.wrap .i64 ((j:Int)+1)=((j+1:Nat):Int):=cD hjl (by omega)
    have hw:=hb _ (bo hjl)
    simp only[cj,if_true,aQ,ae,ah hjl,hj1]
    unfold orN at hM
    rw[ah hjl]at hM
    simp only at hM
    rw[<-hM]
    unfold eqB
    by_cases h1:l[j].1=l[i].1
    ·by_cases h2:l[j].2.1=l[i].2.1
     ·simp[h1,h2,yD (Bw hb l[i] j) hw]
     ·simp[h1,h2]
    ·simp[h1]
   ·have cj:¬(j:Int)<(l.length:Int):=by omega
    have hje:j=l.length:=by omega
    subst hje
    simp only[cj,if_false,aO,bH]
    rw[if_pos (by omega),if_pos (by omega)]
    refine hK (l.length-(o.length+1)) _ _ (by omega) ⟨o++[(l[i].1,(l[i].2.1,orN l l[i] l.length))],?_,hpm,by simp;omega,by simp,rfl⟩
    simp
end
noncomputable section
def dO(g:GrS)(q:Int):List SyS×Bool:=
 if 0<=q/\q<(g.2.2.1.length:Int)then(match g.2.2.1[q.toNat]? with
  |some p=>(p.2.2.1,true)
  |none=>([],true))else if q=(g.2.2.1.length:Int)then([(true,g.2.2.2.2)],true)else([],false)
theorem C0(g:GrS)(q:Int):p87 N0 (g,(q,()))=some (((dO g q).1,((dO g q).2,())),()):=by
 unfold p87 dO
 simp only[aJ,bO,decide_eq_true_eq]
 by_cases h1:0<=q
 ·by_cases h2:q<(g.2.2.1.length:Int)
  ·have hl:q.toNat<g.2.2.1.length:=by omega
   simp[h1,h2,ah hl]
  ·by_cases h3:q=(g.2.2.1.length:Int)
   ·simp[h3]
   ·simp[h1,h2,h3]
 ·by_cases h3:q=(g.2.2.1.length:Int)
  ·omega
  ·simp[h1,h3]
theorem C1(g:GrS)(q:Int):p29 N0 (g,(q,()))=some (((dO g q).1,((dO g q).2,())),()):=by
 unfold p29 dO
 simp only[aJ,bO,decide_eq_true_eq]
 by_cases h1:0<=q
 ·have h1':¬q<0:=by omega
  by_cases h2:q<(g.2.2.1.length:Int)
  ·have hl:q.toNat<g.2.2.1.length:=by omega
   have h3:¬(g.2.2.1.length:Int)<q:=by omega
   have h4:¬q=(g.2.2.1.length:Int):=by omega
   simp[h1,h1',h2,h3,h4,ah hl]
  ·by_cases h3:q=(g.2.2.1.length:Int)
   ·simp[h3]
   ·have h4:(g.2.2.1.length:Int)<q:=by omega
    simp[h1,h1',h2,h3,h4]
 ·have h1':q<0:=by omega
  by_cases h3:q=(g.2.2.1.length:Int)
  ·omega
  ·simp[h1,h1',h3]
theorem oR{g:GrS}(hg:Gs g)(q:Int):(dO g q).1.length<=20:=by
 unfold dO
 split
 ·split
  ·rename_i p hp;exact hg.pb p (cJ hp)
  ·simp
 ·split <;> simp
theorem Bx{g:GrS}(hg:Gs g)(q:Int):GY (dO g q).1:=by
 unfold dO
 split
 ·split
  ·rename_i p hp;exact hg.py p (cJ hp)
  ·intro y hy;cases hy
 ·split
  ·intro y hy
   rw[aM.1 hy];exact hg.st
  ·intro y hy;cases hy
theorem By{g:GrS}{q:Int}(h:(dO g q).1≠[]):0<=q/\q<=(g.2.2.1.length:Int):=by
 unfold dO at h
 split at h
 ·omega
 ·split at h
  ·omega
  ·exact absurd rfl h
def gl(g:GrS)(q d:Int):Option SyS:=if d<0 then none else(dO g q).1[d.toNat]?
theorem yH{g:GrS}{q d:Int}{y:SyS}(h:gl g q d=some y):0<=d/\d.toNat<(dO g q).1.length:=by
 unfold gl at h
 split at h
 ·cases h
 ·exact⟨by omega,(bm.1 h).1⟩
theorem QH{g:GrS}(hg:Gs g){q d:Int}{y:SyS}(h:gl g q d=some y):0<=q/\q<=12/\0<=d/\d<=19:=by
 have h1:=yH h
 have h2:=oR hg q
 have h3:=By (g:=g) (q:=q) (λe=>by rw[e]at h1;simp at h1)
 have h4:=hg.ps
 omega
theorem C2(g:GrS)(x:ItS):p75 N0 (g,(x,()))=some ((match gl g x.1 x.2.1 with
 |some y=>(y,(true,()))
 |none=>((false,0),(false,()))),()):=by
 unfold p75 gl
 simp only[aJ,bO,decide_eq_true_eq,C0,aC]
 by_cases h1:x.2.1<0
 ·simp[h1]
 ·cases hb:(dO g x.1).2
  ·have:(dO g x.1).1=[]:=by
    unfold dO at hb |-
    split at hb
    ·split at hb <;> cases hb
    ·split at hb
     ·cases hb
     ·rename_i h2 h3;rw[if_neg h2,if_neg h3]
   simp[h1,this]
  ·by_cases h2:((dO g x.1).1.length:Int)<=x.2.1
   ·have:(dO g x.1).1.length<=x.2.1.toNat:=by omega
    simp[h1,h2,bn this]
   ·have hl:x.2.1.toNat<(dO g x.1).1.length:=by omega
    have h0:0<=x.2.1:=by omega
    simp[h1,h2,h0,ah hl]
theorem C3(g:GrS)(x:ItS):p54 N0 (g,(x,()))=some ((match gl g x.1 x.2.1 with
 |some y=>(y,(true,()))
 |none=>((false,0),(false,()))),()):=by
 unfold p54 gl
 simp only[aJ,bO,decide_eq_true_eq,C1,aC]
 by_cases h1:x.2.1<0
 ·simp[h1]
 ·by_cases h2:((dO g x.1).1.length:Int)<=x.2.1
  ·have:(dO g x.1).1.length<=x.2.1.toNat:=by omega
   simp[h1,h2,bn this]
  ·have hl:x.2.1.toNat<(dO g x.1).1.length:=by omega
   have h0:0<=x.2.1:=by omega
   simp[h1,h2,h0,ah hl]
def sR(g:GrS)(q d:Int):List SyS:=(dO g q).1.drop (d.toNat+1)
theorem vn{α:Type}(b:List α)(n:Nat):cz b (n:Int) (b.length:Int)=b.drop n:=by
 unfold cz
 rw[ae,ae,bR (by rw[bB];exact aq _)]
theorem QI{g:GrS}(hg:Gs g){x:ItS}{y:SyS}(h:gl g x.1 x.2.1=some y):p78 N0 (g,(x,()))=some ((sR g x.1 x.2.1,()),()):=by
 obtain⟨h1,h2⟩:=yH h
 have h3:=oR hg x.1
 unfold p78 sR
 simp only[aJ,bO,decide_eq_true_eq,C0,aC]
 have h1':¬x.2.1<0:=by omega
 have hw:IntKind.wrap .i64 (((dO g x.1).1.length:Int)-1)=((dO g x.1).1.length:Int)-1:=bD (by omega) (by omega)
 have hw2:IntKind.wrap .i64 (x.2.1+1)=((x.2.1.toNat+1:Nat):Int):=by rw[bD (by omega) (by omega)];omega
 simp only[h1',if_false,hw,hw2]
 by_cases xb:((dO g x.1).1.length:Int)-1<=x.2.1
 ·have:(dO g x.1).1.drop (x.2.1.toNat+1)=[]:=fq (by omega)
  simp[xb,this]
 ·rw[if_neg (by simpa using xb),if_pos ⟨by omega,by omega,by omega⟩,vn]
def stG(g:GrS)(p d q:Int):Prop:=∃ (k:Nat) (pr:PrS),q=(k:Int)/\g.2.2.1[k]?=some pr/\gl g p d=some (true,pr.1)
def fsG(g:GrS)(p d:Int)(b:Nat):Prop:=Beg g.2.1.length (tE g.2.2.1 g.2.1.length) (tF g.2.2.1 g.2.1.length) (sR g p d) b
def nlG(g:GrS)(p d:Int):Prop:=emR g.2.1.length (tE g.2.2.1 g.2.1.length) (sR g p d)=true
def wG(g:GrS)(p d look:Int):Int:=yz g.2.1.length (tE g.2.2.1 g.2.1.length) (tF g.2.2.1 g.2.1.length) (sR g p d) look
theorem NS{g:GrS}{p d look:Int}(h:U64 look):U64 (wG g p d look):=Qy (λi=>Kb i) h
theorem si{g:GrS}{p d look:Int}{b:Nat}:(wG g p d look).toNat.testBit b=true↔fsG g p d b\/nlG g p d/\look.toNat.testBit b=true:=J3
def ClG(g:GrS)(l:List ItS):Ato:=Cl (stG g) (fsG g) (nlG g) (At l)
theorem Kp{g:GrS}{p d:Int}{b:Nat}(h:fsG g p d b):b<64:=by
 obtain⟨pre,y,post,_,_,h|h⟩:=h
 ·omega
 ·exact Ov (Kb _) h.2.2
theorem C4{g:GrS}(hg:Gs g){p d q:Int}(h:stG g p d q):0<=q/\q<=12:=by
 obtain⟨k,pr,rfl,h1,_⟩:=h
 have:=(bm.1 h1).1
 have:=hg.ps
 omega
structure OkI(l:List ItS):Prop where
 bd:∀ x∈l,kM x
 rg:∀ x∈l,0<=x.1/\x.1<=12/\0<=x.2.1/\x.2.1<=20
theorem OkI.inU{l:List ItS}(h:OkI l){p d:Int}{o:Option Nat}(ha:At l p d o):InU 12 p d o:=by
 cases o with
 |none=>
  obtain⟨x,hx,rfl,rfl⟩:=ha
  have:=h.rg x hx
  exact⟨this.1,this.2.1,this.2.2.1,this.2.2.2,λb e=>by cases e⟩
 |some b=>
  obtain⟨x,hx,rfl,rfl,hb⟩:=ha
  have:=h.rg x hx
  exact⟨this.1,this.2.1,this.2.2.1,this.2.2.2,λb' e=>by cases e;exact Ov (h.bd x hx) hb⟩
theorem ClG.inU{g:GrS}(hg:Gs g){l:List ItS}(h:OkI l){p d:Int}{o:Option Nat}(ha:ClG g l p d o):InU 12 p d o:=by
 unfold ClG at ha
 cases ha with
 |base h1=>exact h.inU h1
 |there h1 h2=>
  have:=C4 hg h2
  exact⟨this.1,this.2,iE _,by omega,λb e=>by cases e⟩
 |first h1 h2 h3=>
  have:=C4 hg h2
  exact⟨this.1,this.2,iE _,by omega,λb e=>by cases e;exact Kp h3⟩
 |look h1 h2 h3=>
  have:=C4 hg h2
  have key:∀ {p d:Int} {o:Option Nat},Cl (stG g) (fsG g) (nlG g) (At l) p d o->∀ b,o=some b->b<64:=by
   intro p d o hc
   induction hc with
   |base h1=>exact(h.inU h1).b
   |there _ _ _=>intro b e;cases e
   |first _ _ h3 _=>intro b e;cases e;exact Kp h3
   |look _ _ _ ih=>intro b e;cases e;exact ih _ rfl
  exact⟨this.1,this.2,iE _,by omega,λb e=>by cases e;exact key h1 _ rfl⟩
theorem ClG.QJ{g:GrS}{l:List ItS}{p d:Int}{o:Option Nat}(ha:ClG g l p d o):ClG g l p d none:=by
 unfold ClG at *
 induction ha with
 |base h1=>exact .base h1.there
 |there h1 h2 _=>exact .there h1 h2
 |first h1 h2 _ _=>exact .there h1 h2
 |look _ h2 _ ih=>exact .there ih h2
def Kq(A:Ato):List ItS:=by
 classical exact(List.range 13).flatMap λ(p:Nat)=>(List.range 21).flatMap λ(d:Nat)=>if A p d none then [((p:Int),((d:Int),((ko (λb=>decide (A p d (some b))) 64:Nat):Int)))]else []
theorem lO{A:Ato}{x:ItS}:x∈Kq A↔∃ p d:Nat,p<13/\d<21/\A p d none/\x.1=(p:Int)/\x.2.1=(d:Int)/\U64 x.2.2/\∀ b,x.2.2.toNat.testBit b=true↔b<64/\A p d (some b):=by
 classical
 unfold Kq
 simp only[dV,cE]
 constructor
 ·rintro⟨p,hp,d,hd,hx⟩
  split at hx
  ·rename_i ha
   rw[aM.1 hx]
   refine⟨p,d,hp,hd,ha,rfl,rfl,pA _,λb=>?_⟩
   show(Int.toNat ((ko _ 64:Nat):Int)).testBit b=true↔_
   rw[ae,ji]
   simp
  ·cases hx
 ·rintro⟨p,d,hp,hd,ha,e1,e2,hU,hb⟩
  refine⟨p,hp,d,hd,?_⟩
  rw[if_pos ha]
  refine aM.2 ?_
  obtain⟨x1,x2,x3⟩:=x
  simp only at e1 e2 hU hb
  rw[e1,e2]
  congr 2
  refine Bk hU (pA _) λb VT=>?_
  rw[ae,ji,cf,hb]
  simp
theorem Kr{A:Ato}(h1:∀ p d o,A p d o->InU 12 p d o)(h2:∀ p d o,A p d o->A p d none):Can A (Kq A):=by
 refine⟨?_,λx hx=>?_,λp d o=>?_⟩
 ·have hr:∀ n,(List.range n).Pairwise (λa b=>a<b):=λn=>List.pairwise_lt_range
  classical
  unfold Kq
  refine List.pairwise_flatMap.2 ⟨λp _=>List.pairwise_flatMap.2 ⟨λd _=>?_,?_⟩,?_⟩
  ·split
   ·exact nT _ _
   ·exact .nil
  ·refine List.Pairwise.imp ?_ (hr 21)
   intro a b hab x hx y hy
   split at hx
   ·split at hy
    ·rw[aM.1 hx,aM.1 hy]
     exact .inr ⟨rfl,by show(a:Int)<(b:Int);omega⟩
    ·cases hy
   ·cases hx
  ·refine List.Pairwise.imp ?_ (hr 13)
   intro a b hab x hx y hy
   obtain⟨d,_,hx⟩:=dV.1 hx
   obtain⟨d',_,hy⟩:=dV.1 hy
   split at hx
   ·split at hy
    ·rw[aM.1 hx,aM.1 hy]
     exact .inl (by show(a:Int)<(b:Int);omega)
    ·cases hy
   ·cases hx
 ·obtain⟨p,d,_,_,_,_,_,h,_⟩:=lO.1 hx
  exact h
 ·cases o with
  |none=>
   constructor
   ·rintro⟨x,hx,rfl,rfl⟩
    obtain⟨p,d,_,_,ha,e1,e2,_⟩:=lO.1 hx
    rw[e1,e2];exact ha
   ·intro ha
    have hu:=h1 _ _ _ ha
    have u1:=hu.p0
    have u2:=hu.p1
    have u3:=hu.d0
    have u4:=hu.d1
    obtain⟨P,rfl⟩:∃ P:Nat,p=(P:Int):=⟨p.toNat,by omega⟩
    obtain⟨D,rfl⟩:∃ D:Nat,d=(D:Int):=⟨d.toNat,by omega⟩
    classical
    refine⟨((P:Int),((D:Int),((ko (λb=>decide (A P D (some b))) 64:Nat):Int))),lO.2 ⟨P,D,by omega,by omega,ha,rfl,rfl,pA _,λb=>?_⟩,rfl,rfl⟩
    show(Int.toNat ((ko _ 64:Nat):Int)).testBit b=true↔_
    rw[ae,ji]
    simp
  |some b=>
   constructor
   ·rintro⟨x,hx,rfl,rfl,hb⟩
    obtain⟨p,d,_,_,ha,e1,e2,_,NT⟩:=lO.1 hx
    rw[e1,e2];exact((NT b).1 hb).2
   ·intro ha
    have hu:=h1 _ _ _ ha
    have u1:=hu.p0
    have u2:=hu.p1
    have u3:=hu.d0
    have u4:=hu.d1
    have u5:=hu.b b rfl
    obtain⟨P,rfl⟩:∃ P:Nat,p=(P:Int):=⟨p.toNat,by omega⟩
    obtain⟨D,rfl⟩:∃ D:Nat,d=(D:Int):=⟨d.toNat,by omega⟩
    classical
    have NT:∀ b,(Int.toNat ((ko (λb=>decide (A P D (some b))) 64:Nat):Int)).testBit b=true↔b<64/\A P D (some b):=λb=>by
     rw[ae,ji]
     simp
    exact⟨((P:Int),((D:Int),((ko (λb=>decide (A P D (some b))) 64:Nat):Int))),lO.2 ⟨P,D,by omega,by omega,h2 _ _ _ ha,rfl,rfl,pA _,NT⟩,rfl,rfl,(NT b).2 ⟨u5,ha⟩⟩
def eK(g:GrS)(l:List ItS):List ItS:=Kq (ClG g l)
theorem fg{g:GrS}(hg:Gs g){l:List ItS}(h:OkI l):Can (ClG g l) (eK g l):=Kr (λ_ _ _ ha=>ClG.inU hg h ha) (λ_ _ _ ha=>ha.QJ)
theorem Kt{A:Ato}{l:List ItS}(h:Can A l)(hU:∀ p d o,A p d o->InU 12 p d o):OkI l:=
 ⟨h.bd,λx hx=>by
  have:=hU _ _ _ ((h.at' x.1 x.2.1 none).1 ⟨x,hx,rfl,rfl⟩)
  exact⟨this.p0,this.p1,this.d0,this.d1⟩⟩
theorem oS{g:GrS}(hg:Gs g){l:List ItS}(h:OkI l):OkI (eK g l):=Kt (fg hg h) λ_ _ _ ha=>ClG.inU hg h ha
theorem lP{A:Ato}{l:List ItS}(h:Can A l)(hU:∀ p d o,A p d o->InU 12 p d o):l.length<=273:=by
 have:=NI h hU
 omega
end
noncomputable section
theorem Ku{a b:List ItS}(hl:a.length<=1000000):p20 N0 (a,(b,()))=some ((decide (a=b),()),()):=by
 unfold p20
 simp only[aJ,bO,decide_eq_true_eq]
 by_cases hlen:(a.length:Int)=(b.length:Int)
 ·have VG:a.length=b.length:=by omega
  simp only[hlen,decide_true,aB,au,if_false]
  rw[<-hlen]
  refine bQ (λj=>((),((j:Int),()))) (λj=>some ((decide (a.drop j=b.drop j),()),())) a.length (λj hj K hK=>?_) N0 0 (aH _) (by unfold N0;omega)
  rcases ap j a.length with h|h
  ·have c:(j:Int)<(a.length:Int):=by omega
   have hK:=hK h
   have hb:j<b.length:=by omega
   have hj1:IntKind.wrap .i64 ((j:Int)+1)=((j+1:Nat):Int):=cD h hl
   simp only[c,if_true,aQ,ae,ah h,ah hb,hj1,cQ h,cQ hb]
   rw[hK]
   generalize a[j]=x
   generalize b[j]=y
   obtain⟨x1,x2,x3⟩:=x
   obtain⟨y1,y2,y3⟩:=y
   by_cases h1:x1=y1
   ·by_cases h2:x2=y2
    ·by_cases h3:x3=y3
     ·simp[h1,h2,h3]
     ·simp[h1,h2,h3]
    ·simp[h1,h2]
   ·simp[h1]
  ·have c:¬(j:Int)<(a.length:Int):=by omega
   rw[fq h,fq (by omega)]
   simp only[c,if_false,decide_true]
 ·have:¬a=b:=λe=>hlen (by rw[e])
  simp[hlen,this]
def mO(g:GrS)(s w:Int)(j:Nat):List ItS:=(List.range j).flatMap λk=>match g.2.2.1[k]? with
 |some pr=>if pr.1=s then [((k:Int),((0:Int),w))]else []
 |none=>[]
def C5(g:GrS)(x:ItS):List ItS:=match gl g x.1 x.2.1 with
 |some y=>if y.1=true then mO g y.2 (wG g x.1 x.2.1 x.2.2) g.2.2.1.length else []
 |none=>[]
def kp(g:GrS)(c:List ItS):List ItS:=c.flatMap (C5 g)
theorem vo(g:GrS)(s w:Int)(j:Nat):mO g s w (j+1)=mO g s w j++(match g.2.2.1[j]? with
 |some pr=>if pr.1=s then [((j:Int),((0:Int),w))]else []
 |none=>[]):=by
 unfold mO
 rw[kV,iy]
 simp only[kT,q8,b9]
theorem sj(g:GrS)(s w:Int):∀ j,(mO g s w j).length<=j
 |0=>by simp[mO]
 |j+1=>by
  have:=sj g s w j
  rw[vo,ak]
  split
  ·split
   ·simp;omega
   ·simp;omega
  ·simp;omega
def Bz{α:Type}(l m:List α):List α:=match m with
 |[]=>l
 |x::m=>l++x::m
theorem oT{α:Type}(l m:List α):Bz l m=l++m:=by
 cases m
 ·exact(b9 l).symm
 ·rfl
theorem G1{g:GrS}{s w:Int}{j:Nat}{y:ItS}:y∈mO g s w j↔∃ k pr,k<j/\g.2.2.1[k]?=some pr/\pr.1=s/\y=((k:Int),((0:Int),w)):=by
 unfold mO
 simp only[dV,cE]
 constructor
 ·rintro⟨k,hk,hy⟩
  cases hp:g.2.2.1[k]? with
  |none=>rw[hp]at hy;cases hy
  |some pr=>
   rw[hp]at hy
   simp only at hy
   split at hy
   ·rename_i e;exact⟨k,pr,hk,hp,e,aM.1 hy⟩
   ·cases hy
 ·rintro⟨k,pr,hk,hp,e,rfl⟩
  refine⟨k,hk,?_⟩
  rw[hp]
  simp[e]
theorem vq{g:GrS}{x y:ItS}:y∈C5 g x↔∃ q,stG g x.1 x.2.1 q/\y=(q,((0:Int),wG g x.1 x.2.1 x.2.2)):=by
 unfold C5 stG
 cases hn:gl g x.1 x.2.1 with
 |none=>
  constructor
  ·intro h;cases h
  ·rintro⟨q,⟨k,pr,_,_,h⟩,_⟩;cases h
 |some z=>
  simp only
  by_cases hz:z.1=true
  ·rw[if_pos hz,G1]
   constructor
   ·rintro⟨k,pr,_,h1,h2,h3⟩
    refine⟨(k:Int),⟨k,pr,rfl,h1,?_⟩,h3⟩
    obtain⟨z1,z2⟩:=z
    simp only at hz h2
    rw[hz,h2]
   ·rintro⟨q,⟨k,pr,rfl,h1,h2⟩,h3⟩
    refine⟨k,pr,(bm.1 h1).1,h1,?_,h3⟩
    cases h2;rfl
  ·rw[if_neg hz]
   constructor
   ·intro h;cases h
   ·rintro⟨q,⟨k,pr,_,_,h⟩,_⟩
    cases h
    exact absurd rfl hz
theorem Kv(g:GrS)(x:ItS):(C5 g x).length<=g.2.2.1.length:=by
 unfold C5
 split
 ·split
  ·exact sj _ _ _ _
  ·simp
 ·simp
theorem vt{g:GrS}(hg:Gs g):∀ c:List ItS,(kp g c).length<=c.length*12
 |[]=>by simp[kp]
 |x::c=>by
  have h1:=vt hg c
  have h2:=Kv g x
  have h3:=hg.ps
  unfold kp at *
  rw[kT,ak,aO]
  omega
theorem NU{g:GrS}{c:List ItS}{p d:Int}{o:Option Nat}:At (kp g c) p d o↔Stp (stG g) (fsG g) (nlG g) (At c) p d o:=by
 have hm:∀ y,y∈kp g c↔∃ x∈c,∃ q,stG g x.1 x.2.1 q/\y=(q,((0:Int),wG g x.1 x.2.1 x.2.2)):=λy=>by
  unfold kp
  rw[dV]
  constructor
  ·rintro⟨x,hx,h⟩;exact⟨x,hx,vq.1 h⟩
  ·rintro⟨x,hx,h⟩;exact⟨x,hx,vq.2 h⟩
 cases o with
 |none=>
  constructor
  ·rintro⟨y,hy,rfl,rfl⟩
   obtain⟨x,hx,q,h1,rfl⟩:=(hm y).1 hy
   exact⟨rfl,x.1,x.2.1,⟨x,hx,rfl,rfl⟩,h1⟩
  ·rintro⟨rfl,p',d',⟨x,hx,rfl,rfl⟩,h1⟩
   exact⟨_,(hm _).2 ⟨x,hx,p,h1,rfl⟩,rfl,rfl⟩
 |some b=>
  constructor
  ·rintro⟨y,hy,rfl,rfl,hb⟩
   obtain⟨x,hx,q,h1,rfl⟩:=(hm y).1 hy
   refine⟨rfl,x.1,x.2.1,h1,?_⟩
   rcases si.1 hb with h|h
   ·exact .inl ⟨⟨x,hx,rfl,rfl⟩,h⟩
   ·exact .inr ⟨⟨x,hx,rfl,rfl,h.2⟩,h.1⟩
  ·rintro⟨rfl,p',d',h1,h|h⟩
   ·obtain⟨⟨x,hx,rfl,rfl⟩,hf⟩:=h
    exact⟨_,(hm _).2 ⟨x,hx,p,h1,rfl⟩,rfl,rfl,si.2 (.inl hf)⟩
   ·obtain⟨⟨x,hx,rfl,rfl,hb⟩,hn⟩:=h
    exact⟨_,(hm _).2 ⟨x,hx,p,h1,rfl⟩,rfl,rfl,si.2 (.inr ⟨hn,hb⟩)⟩
theorem NV{g:GrS}{c:List ItS}(h:∀ x∈c,kM x):∀ y∈kp g c,kM y:=λy hy=>by
 unfold kp at hy
 obtain⟨x,hx,hy⟩:=dV.1 hy
 obtain⟨q,_,rfl⟩:=vq.1 hy
 exact NS (h x hx)
set_option maxHeartbeats 2000000 in
theorem yI{g:GrS}(hg:Gs g){l:List ItS}(hl:OkI l)(hll:l.length<=100000):p23 N0 (g,(l,()))=some ((eK g l,()),()):=by
 have hps:=hg.ps
 unfold p23
 simp only[Kc hg,QE hg,aC,CZ hl.bd (by omega:l.length<=1000000)]
 simp only[aJ,bO,decide_eq_true_eq]
 have EO:=kg hl.bd
 have C6:=fg hg hl
 have QK:∀ p d o,ClG g l p d o->InU 12 p d o:=λ_ _ _ ha=>ClG.inU hg hl ha
 refine aZ (λm z r=>∃ (c:List ItS),z=((),(c,()))/\Can (At c) c/\(∀ p d o,At l p d o->At c p d o)/\(∀ p d o,At c p d o->ClG g l p d o)/\m=ij (vX 12) (onU (At c))/\r=some ((eK g l,()),())) ?_ N0 (ij (vX 12) (onU (At (fN l)))) _ _ (by
  have:=jg (vX 12) (onU (At (fN l)))
  rw[J1]at this
  unfold N0;omega) ⟨fN l,rfl,⟨EO.st,EO.bd,λ_ _ _=>jK⟩,λp d o h=>(EO.at' p d o).2 h,λp d o h=>.base ((EO.at' p d o).1 h),rfl,rfl⟩
 rintro m z r ⟨c,rfl,hc,hlc,hcc,rfl,rfl⟩ K hK
 have hcl:c.length<=273:=lP hc λp d o h=>QK _ _ _ (hcc _ _ _ h)
 simp only[bH,bM]
 rw[if_pos (by omega),if_pos (by omega)]
 have hal:=vt hg c
 refine bQ (λj=>((),(Bz c (kp g (c.take j)),((j:Int),())))) (λ_=>some ((eK g l,()),())) c.length (λj hj L hL=>?_) N0 0 (aH _) (by unfold N0;omega)
 simp only[oT]at hL |-
 rcases ap j c.length with hjl|hjl
 ·have cj:(j:Int)<(c.length:Int):=by omega
  have hL:=hL hjl
  have hj1:IntKind.wrap .i64 ((j:Int)+1)=((j+1:Nat):Int):=cD hjl (by omega)
  have hx:=hc.bd _ (bo hjl)
  have Vv:=vt hg (c.take j)
  rw[aL]at Vv
  have hsn:kp g (c.take (j+1))=kp g (c.take j)++C5 g c[j]:=by
   unfold kp
   rw[cZ _ _ hjl,iy]
   simp
  rw[hsn,<-aN]at hL
  simp only[cj,if_true,aQ,ae,ah hjl,hj1,C3,aC]
  have hol:(c++kp g (c.take j)).length<=10000:=by rw[ak];omega
  generalize c++kp g (c.take j)=out at *
  generalize c[j]=x at *
  rw[<-hL]
  unfold C5
  cases hn:gl g x.1 x.2.1 with
  |none=>simp
  |some y=>
   cases hy:y.1
   ·simp[hy]
   ·obtain⟨n1,n2⟩:=yH hn
    have n3:=oR hg x.1
    have hw2:IntKind.wrap .i64 (x.2.1+1)=((x.2.1.toNat+1:Nat):Int):=by rw[bD (by omega) (by omega)];omega
    simp only[aB,au,if_false,hy,C1,aC,hw2,if_true]
    rw[if_pos ⟨by omega,by omega,by omega⟩,vn]
    have e55:=QB (n:=g.2.1.length) (f:=tE g.2.2.1 g.2.1.length) (F:=tF g.2.2.1 g.2.1.length) (λi=>Kb i) (body:=sR g x.1 x.2.1) (λz hz=>Bx hg x.1 z (jE hz)) (by unfold sR;rw[bB];unfold maxLen;omega) (look:=x.2.2) hx
    have Vw:p55 N0 (bsS g.2.1.length (tE g.2.2.1 g.2.1.length),(inN g.2.1.length (tF g.2.2.1 g.2.1.length),((dO g x.1).1.drop (x.2.1.toNat+1),(x.2.2,()))))=some ((wG g x.1 x.2.1 x.2.2,()),()):=e55
    rw[Vw]
    simp only[aC]
    generalize wG g x.1 x.2.1 x.2.2=w
    refine bQ (λi=>((),(Bz out (mO g y.2 w i),((i:Int),())))) (λ_=>L ((),(out++mO g y.2 w g.2.2.1.length,(((j+1:Nat):Int),())))) g.2.2.1.length (λi hi M hM=>?_) N0 0 (aH _) (by unfold N0;omega)
    simp only[oT]at hM |-
    rcases ap i g.2.2.1.length with hil|hil
    ·have ci:(i:Int)<(g.2.2.1.length:Int):=by omega
     have hM:=hM hil
     have hi1:IntKind.wrap .i64 ((i:Int)+1)=((i+1:Nat):Int):=cD hil (by omega)
     have hnl:=sj g y.2 w i
     rw[vo,ah hil,<-aN]at hM
     simp only[ci,if_true,aQ,ae,ah hil,hi1]
     have VU:(out++mO g y.2 w i).length<=20000:=by rw[ak];omega
     generalize out++mO g y.2 w i=VV at *
     rw[<-hM]
     by_cases he:g.2.2.1[i].1=y.2
     ·simp only[he,if_true,aO,bH]
      rw[if_pos (by omega),if_pos (by omega)]
     ·simp only[he,if_false,b9]
    ·have ci:¬(i:Int)<(g.2.2.1.length:Int):=by omega
     have e:i=g.2.2.1.length:=by omega
     subst e
     simp only[ci,if_false]
 ·have cj:¬(j:Int)<(c.length:Int):=by omega
  rw[bR hjl]
  have hbd:∀ x∈c++kp g c,kM x:=λx hx=>by
   rcases av.1 hx with hx|hx
   ·exact hc.bd x hx
   ·exact NV hc.bd x hx
  have hcn:=kg hbd
  have hat:∀ p d o,At (fN (c++kp g c)) p d o↔At c p d o\/Stp (stG g) (fsG g) (nlG g) (At c) p d o:=λp d o=>by
   rw[hcn.at',jm,NU]
  have QL:∀ p d o,At (fN (c++kp g c)) p d o->ClG g l p d o:=λp d o h=>by
   rcases(hat p d o).1 h with h|h
   ·exact hcc _ _ _ h
   ·exact Cl.stp (h.mono hcc)
  have hnl:(fN (c++kp g c)).length<=273:=lP (A:=At (fN (c++kp g c))) ⟨hcn.st,hcn.bd,λ_ _ _=>jK⟩ λp d o h=>QK _ _ _ (QL _ _ _ h)
  have e53:=CZ hbd (by rw[ak];omega)
  simp only[cj,if_false,e53,aC,Ku (by omega:(fN (c++kp g c)).length<=1000000),decide_eq_true_eq]
  by_cases he:fN (c++kp g c)=c
  ·rw[if_pos he]
   have Kw:∀ p d o,At c p d o↔ClG g l p d o:=λp d o=>⟨hcc p d o,λh=>Cl.least hlc (λp d o hs=>by
    rw[<-he];exact(hat p d o).2 (.inr hs)) h⟩
   rw[(hc.congr Kw).Bj C6]
  ·rw[if_neg he]
   refine hK (ij (vX 12) (onU (At (fN (c++kp g c))))) _ _ ?_ ⟨_,rfl,⟨hcn.st,hcn.bd,λ_ _ _=>jK⟩,λp d o h=>(hat p d o).2 (.inl (hlc _ _ _ h)),QL,rfl,rfl⟩
   exact J2 hc ⟨hcn.st,hcn.bd,λ_ _ _=>jK⟩ (λp d o h=>(hat p d o).2 (.inl h)) (λp d o h=>QK _ _ _ (QL _ _ _ h)) (λe=>he e.symm)
end
noncomputable section
def nN(g:GrS)(s:Int)(n:Nat):Bool:=match g.2.2.1[n]? with
 |some pr=>decide (pr.1=s)
 |none=>false
def T1(g:GrS)(s:Int)(T:Nat->Bool)(j:Nat):Nat->Bool:=λn=>T n||(decide (n<j)&&nN g s n)
def L1(g:GrS)(s w:Int)(L:Nat->Int)(j:Nat):Nat->Int:=λn=>if(decide (n<j)&&nN g s n)=true then orI (L n) w else L n
def iS(g:GrS)(s w:Int)(T:Nat->Bool)(L:Nat->Int)(n:Nat):Bool:=nN g s n&&!(T n&&decide (orI (L n) w=L n))
def N1(g:GrS)(s w:Int)(T:Nat->Bool)(L:Nat->Int)(j:Nat):List ItS:=(List.range j).flatMap λn=>if iS g s w T L n=true then [((n:Int),((0:Int),orI (L n) w))]else []
variable {g:GrS} {s w:Int} {T:Nat->Bool} {L:Nat->Int}
theorem yJ(j:Nat):N1 g s w T L (j+1)=N1 g s w T L j++(if iS g s w T L j=true then [((j:Int),((0:Int),orI (L j) w))]else []):=by
 unfold N1
 rw[kV,iy]
 simp
theorem QM(j:Nat):(N1 g s w T L j).length<=j:=by
 induction j with
 |zero=>simp[N1]
 |succ j ih=>
  rw[yJ,ak]
  split
  ·simp;omega
  ·simp;omega
theorem SC:T1 g s T 0=T:=by funext n;simp[T1]
theorem SD:L1 g s w L 0=L:=by funext n;simp[L1]
theorem yK{j:Nat}(h:iS g s w T L j=false):T1 g s T (j+1)=T1 g s T j:=by
 funext n
 unfold T1
 by_cases e:n=j
 ·subst e
  unfold iS at h
  cases hh:nN g s n
  ·simp
  ·rw[hh]at h
   cases ht:T n
   ·rw[ht]at h;cases h
   ·simp
 ·by_cases h2:n<j
  ·simp[h2,fv h2]
  ·have:¬n<j+1:=by omega
   simp[h2,this]
theorem yL{j:Nat}(h:iS g s w T L j=false):L1 g s w L (j+1)=L1 g s w L j:=by
 funext n
 unfold L1
 by_cases e:n=j
 ·subst e
  unfold iS at h
  cases hh:nN g s n
  ·simp
  ·rw[hh]at h
   have:orI (L n) w=L n:=(by simpa using h:T n=true/\orI (L n) w=L n).2
   simp_all
 ·by_cases h2:n<j
  ·simp[h2,fv h2]
  ·have:¬n<j+1:=by omega
   simp[h2,this]
theorem C7{j:Nat}(h:iS g s w T L j=true):T1 g s T (j+1)=di (T1 g s T j) j true:=by
 funext n
 unfold T1 di
 by_cases e:n=j
 ·subst e
  unfold iS at h
  rw[ag]at h
  simp[h.1]
 ·rw[if_neg e]
  by_cases h2:n<j
  ·simp[h2,fv h2]
  ·have:¬n<j+1:=by omega
   simp[h2,this]
theorem C8{j:Nat}(h:iS g s w T L j=true):L1 g s w L (j+1)=di (L1 g s w L j) j (orI (L j) w):=by
 funext n
 unfold L1 di
 by_cases e:n=j
 ·subst e
  unfold iS at h
  rw[ag]at h
  simp[h.1]
 ·rw[if_neg e]
  by_cases h2:n<j
  ·simp[h2,fv h2]
  ·have:¬n<j+1:=by omega
   simp[h2,this]
theorem OA(j:Nat):T1 g s T j j=T j:=by simp[T1]
theorem Kx(j:Nat):L1 g s w L j j=L j:=by simp[L1]
theorem Vx(hU:kf L)(hw:U64 w)(j:Nat):kf (L1 g s w L j):=λn=>by
 unfold L1;split
 ·exact mN (hU n) hw
 ·exact hU n
set_option maxHeartbeats 1000000 in
theorem QN(hg:Gs g)(hU:kf L)(hw:U64 w)(t:List Bool×List Int)(o:List ItS)(ho:o.length<=200000):
 p76 N0 ((g,(t,(bsS g.2.2.1.length T,(inN g.2.2.1.length L,o)))),(s,(w,())))=
  some ((),(((g,(t,(bsS g.2.2.1.length (T1 g s T g.2.2.1.length),(inN g.2.2.1.length (L1 g s w L g.2.2.1.length),o++N1 g s w T L g.2.2.1.length)))),()))):=by
 have hps:=hg.ps
 unfold p76
 simp only[aJ,bO,decide_eq_true_eq]
 refine(congrArg (λz=>aE _ N0 z) (?_:_=(((g,(t,(bsS g.2.2.1.length (T1 g s T 0),(inN g.2.2.1.length (L1 g s w L 0),Bz o (N1 g s w T L 0))))),()),(((0:Nat):Int),())))).trans
  ((bQ (λj=>(((g,(t,(bsS g.2.2.1.length (T1 g s T j),(inN g.2.2.1.length (L1 g s w L j),Bz o (N1 g s w T L j))))),()),((j:Int),()))) (λ_=>some ((),(((g,(t,(bsS g.2.2.1.length (T1 g s T g.2.2.1.length),(inN g.2.2.1.length (L1 g s w L g.2.2.1.length),Bz o (N1 g s w T L g.2.2.1.length))))),())))) g.2.2.1.length (λj hj K hK=>?_) N0 0 (aH _) (by unfold N0;omega)).trans (by rw[oT]))
 ·rw[SC,SD];rfl
 ·simp only[oT]at hK |-
  rcases ap j g.2.2.1.length with h|h
  ·have c:(j:Int)<(g.2.2.1.length:Int):=by omega
   have hK:=hK h
   have hj1:IntKind.wrap .i64 ((j:Int)+1)=((j+1:Nat):Int):=cD h (by omega)
   have hh:nN g s j=decide (g.2.2.1[j].1=s):=by unfold nN;rw[ah h]
   have hnl:=QM (g:=g) (s:=s) (w:=w) (T:=T) (L:=L) j
   simp only[c,if_true,aQ,ae,ah h,hj1]
   rw[yJ]at hK
   by_cases he:g.2.2.1[j].1=s
   ·have hh':nN g s j=true:=by rw[hh];simp[he]
    simp only[he,decide_true,aB,au,if_false,jy _ h,kE _ h,OA,Kx,mG (hU j) hw]
    cases hT:T j
    ·have hn:iS g s w T L j=true:=by unfold iS;rw[hh',hT];rfl
     rw[if_pos hn,C7 hn,C8 hn,<-aN]at hK
     simp only[au,if_false,tv,oP,aO,bH,ak]
     rw[kE _ h,show di (L1 g s w L j) j (orI (L j) w) j=orI (L j) w from if_pos rfl]
     dsimp only
     rw[if_pos (by omega),if_pos (by omega)]
     exact hK
    ·simp only[if_true,decide_eq_true_eq]
     by_cases hq:orI (L j) w=L j
     ·have hn:iS g s w T L j=false:=by unfold iS;rw[hh',hT];simp[hq]
      rw[if_neg (by rw[hn];exact iz),yK hn,yL hn,b9]at hK
      simp only[hq,if_true]
      exact hK
     ·have hn:iS g s w T L j=true:=by unfold iS;rw[hh',hT];simp[hq]
      rw[if_pos hn,C7 hn,C8 hn,<-aN]at hK
      simp only[hq,if_false,tv,oP,aO,bH,ak]
      rw[kE _ h,show di (L1 g s w L j) j (orI (L j) w) j=orI (L j) w from if_pos rfl]
      dsimp only
      rw[if_pos (by omega),if_pos (by omega)]
      exact hK
   ·have hh':nN g s j=false:=by rw[hh];simp[he]
    have hn:iS g s w T L j=false:=by unfold iS;rw[hh'];rfl
    rw[if_neg (by rw[hn];exact iz),yK hn,yL hn,b9]at hK
    simp only[he,decide_false,aI,if_true]
    exact hK
  ·have c:¬(j:Int)<(g.2.2.1.length:Int):=by omega
   have e:j=g.2.2.1.length:=by omega
   subst e
   simp only[c,if_false]
end
noncomputable section
theorem Kz{l:List ItS}(hl:l.length<=1000000):p74 N0 (l,())=some ((l,()),()):=by
 unfold p74
 simp only[bH,bM,bO]
 unfold LH
 cases l with
 |nil=>exact HM _
 |cons x l=>
  simp only[List.isEmpty_cons,au,if_false,cond_false]
  rw[if_pos (by omega),if_pos (by omega)]
variable {g:GrS} {s w:Int} {T:Nat->Bool} {L:Nat->Int}
def nO(k:Nat)(T:Nat->Bool)(L:Nat->Int):Nat:=nM k L+ij (List.range k) λi=>T i=true
theorem BA(k:Nat)(T:Nat->Bool)(L:Nat->Int):nO k T L<=k*65:=by
 have h1:=jg (CU k) λu=>(L u.1).toNat.testBit u.2=true
 have h2:=jg (List.range k) λi=>T i=true
 rw[vj]at h1
 rw[kS]at h2
 unfold nO nM
 omega
theorem EP(hU:kf L)(hw:U64 w):∀ j,j<=g.2.2.1.length->(N1 g s w T L j).length+nO g.2.2.1.length (T1 g s T j) (L1 g s w L j)<=nO g.2.2.1.length T L
 |0,_=>by rw[SC,SD];simp[N1]
 |j+1,hj=>by
  have ih:=EP hU hw j (by omega)
  rw[yJ,ak]
  cases hn:iS g s w T L j
  ·rw[if_neg (by simp),yK hn,yL hn]
   simpa using ih
  ·rw[if_pos rfl,C7 hn,C8 hn]
   have hle:leF (L1 g s w L j) (di (L1 g s w L j) j (orI (L j) w)):=λi b hb=>by
    unfold di
    split
    ·rename_i e
     subst e
     rw[Kx]at hb
     rw[dP,hb,dW]
    ·exact hb
   have SE:∀ i,T1 g s T j i=true->di (T1 g s T j) j true i=true:=λi hi=>by
    unfold di
    split
    ·rfl
    ·exact hi
   have hlt:nO g.2.2.1.length (di (T1 g s T j) j true) (di (L1 g s w L j) j (orI (L j) w))<nO g.2.2.1.length (T1 g s T j) (L1 g s w L j):=by
    have h1:nM g.2.2.1.length (di (L1 g s w L j) j (orI (L j) w))<=nM g.2.2.1.length (L1 g s w L j):=qt λu _ hu=>hle _ _ hu
    have h2:ij (List.range g.2.2.1.length) (λi=>di (T1 g s T j) j true i=true)<=ij (List.range g.2.2.1.length) (λi=>T1 g s T j i=true):=qt λu _ hu=>SE _ hu
    unfold nO
    cases hT:T j
    ·have:=oN (U:=List.range g.2.2.1.length) (P:=λi=>T1 g s T j i=true) (Q:=λi=>di (T1 g s T j) j true i=true) (λu _ hu=>SE _ hu) (cE.2 (by omega:j<g.2.2.1.length)) (by show ¬T1 g s T j j=true;rw[OA,hT];exact iz) (by show di (T1 g s T j) j true j=true;unfold di;rw[if_pos rfl])
     omega
    ·have hne:orI (L j) w≠L j:=by
      unfold iS at hn
      rw[hT]at hn
      intro e
      simp[e]at hn
     obtain⟨b,hb,hb1,hb2⟩:=Ke hw (hU j) (by rw[qw];exact hne)
     have:=vk (n:=g.2.2.1.length) hle (i:=j) (b:=b) (by omega) hb (by rw[Kx];exact hb1) (by unfold di;rw[if_pos rfl,qw];exact hb2)
     omega
   simp only[aO,bH]
   omega
theorem KA{j:Nat}{y:ItS}:y∈N1 g s w T L j↔∃ n,n<j/\iS g s w T L n=true/\y=((n:Int),((0:Int),orI (L n) w)):=by
 unfold N1
 simp only[dV,cE]
 constructor
 ·rintro⟨n,hn,hy⟩
  split at hy
  ·rename_i h;exact⟨n,hn,h,aM.1 hy⟩
  ·cases hy
 ·rintro⟨n,hn,h,rfl⟩
  exact⟨n,hn,by rw[if_pos h];exact aM.2 rfl⟩
def qx(g:GrS)(T:Nat->Bool)(L:Nat->Int)(x:ItS):Prop:=∀ q,stG g x.1 x.2.1 q->T q.toNat=true/\∀ b,(wG g x.1 x.2.1 x.2.2).toNat.testBit b=true->(L q.toNat).toNat.testBit b=true
theorem qx.mono{T':Nat->Bool}{L':Nat->Int}(hT:∀ i,T i=true->T' i=true)(hL:leF L L'){x:ItS}(h:qx g T L x):qx g T' L' x:=λq hq=>⟨hT _ (h q hq).1,λb hb=>hL _ _ ((h q hq).2 b hb)⟩
theorem ET{j:Nat}(i:Nat)(h:T i=true):T1 g s T j i=true:=by unfold T1;rw[h,dW]
theorem EU{j:Nat}:leF L (L1 g s w L j):=λi b hb=>by
 unfold L1;split
 ·rw[dP,hb,dW]
 ·exact hb
theorem EV{n:Nat}:nN g s n=true↔∃ pr,g.2.2.1[n]?=some pr/\pr.1=s:=by
 unfold nN
 cases hp:g.2.2.1[n]? with
 |none=>simp
 |some pr=>simp
structure yM(g:GrS)(l:List ItS)(T:Nat->Bool)(L:Nat->Int)(o:List ItS):Prop where
 U:kf L
 t:∀ n:Nat,T n=true->ClG g l (n:Int) 0 none
 b:∀ (n:Nat) b,(L n).toNat.testBit b=true->ClG g l (n:Int) 0 (some b)
 op:∀ x∈o,kM x/\ClG g l x.1 x.2.1 none/\∀ b,x.2.2.toNat.testBit b=true->ClG g l x.1 x.2.1 (some b)
 p1:∀ x∈l,x∈o\/qx g T L x
 p2:∀ n:Nat,T n=true->((n:Int),((0:Int),L n))∈o\/qx g T L ((n:Int),((0:Int),L n))
theorem yM.skip{l o:List ItS}{x:ItS}(h:yM g l T L (x::o))(hd:qx g T L x):yM g l T L o where
 U:=h.U
 t:=h.t
 b:=h.b
 op:=λy hy=>h.op y (bE _ hy)
 p1:=λy hy=>by
  rcases h.p1 y hy with h1|h1
  ·rcases az.1 h1 with rfl|h1
   ·exact .inr hd
   ·exact .inl h1
  ·exact .inr h1
 p2:=λn hn=>by
  rcases h.p2 n hn with h1|h1
  ·rcases az.1 h1 with h1|h1
   ·exact .inr (h1 ▸ hd)
   ·exact .inl h1
  ·exact .inr h1
theorem yM.step(hg:Gs g){l o:List ItS}{x:ItS}(h:yM g l T L (x::o)){s:Int}(hs:gl g x.1 x.2.1=some (true,s)):
 yM g l (T1 g s T g.2.2.1.length) (L1 g s (wG g x.1 x.2.1 x.2.2) L g.2.2.1.length) (o++N1 g s (wG g x.1 x.2.1 x.2.2) T L g.2.2.1.length):=by
 obtain⟨hxb,hx0,hxs⟩:=h.op x bx
 have hw:U64 (wG g x.1 x.2.1 x.2.2):=NS hxb
 have hst:∀ n,nN g s n=true->stG g x.1 x.2.1 (n:Int):=λn hn=>by
  obtain⟨pr,h1,h2⟩:=EV.1 hn
  exact⟨n,pr,rfl,h1,by rw[h2];exact hs⟩
 have hcw:∀ n b,nN g s n=true->(wG g x.1 x.2.1 x.2.2).toNat.testBit b=true->ClG g l (n:Int) 0 (some b):=λn b hn hb=>by
  rcases si.1 hb with h1|h1
  ·exact .first hx0 (hst n hn) h1
  ·exact .look (hxs b h1.2) (hst n hn) h1.1
 have hdx:qx g (T1 g s T g.2.2.1.length) (L1 g s (wG g x.1 x.2.1 x.2.2) L g.2.2.1.length) x:=by
  rintro q ⟨k,pr,rfl,h1,h2⟩
  have hk:=(bm.1 h1).1
  have C9:nN g s k=true:=EV.2 ⟨pr,h1,by rw[hs]at h2;cases h2;rfl⟩
  rw[ae]
  refine⟨?_,λb hb=>?_⟩
  ·unfold T1;rw[C9];simp[hk]
  ·unfold L1
   rw[if_pos (by rw[C9];simp[hk]),dP,hb,fy]
 refine⟨Vx h.U hw _,λn hn=>?_,λn b hb=>?_,λy hy=>?_,λy hy=>?_,λn hn=>?_⟩
 ·unfold T1 at hn
  rw[aG,ag]at hn
  rcases hn with hn|hn
  ·exact h.t n hn
  ·exact .there hx0 (hst n hn.2)
 ·unfold L1 at hb
  split at hb
  ·rename_i hc
   rw[ag]at hc
   rw[dP,aG]at hb
   rcases hb with hb|hb
   ·exact h.b n b hb
   ·exact hcw n b hc.2 hb
  ·exact h.b n b hb
 ·rcases av.1 hy with hy|hy
  ·exact h.op y (bE _ hy)
  ·obtain⟨n,hn,sW,rfl⟩:=KA.1 hy
   have C9:nN g s n=true:=by
    unfold iS at sW
    rw[ag]at sW
    exact sW.1
   refine⟨mN (h.U n) hw,.there hx0 (hst n C9),λb hb=>?_⟩
   rw[dP,aG]at hb
   rcases hb with hb|hb
   ·exact h.b n b hb
   ·exact hcw n b C9 hb
 ·rcases h.p1 y hy with h1|h1
  ·rcases az.1 h1 with rfl|h1
   ·exact .inr hdx
   ·exact .inl (av.2 (.inl h1))
  ·exact .inr (h1.mono (λi=>ET i) EU)
 ·by_cases hch:iS g s (wG g x.1 x.2.1 x.2.2) T L n=true/\n<g.2.2.1.length
  ·left
   refine av.2 (.inr (KA.2 ⟨n,hch.2,hch.1,?_⟩))
   have C9:nN g s n=true:=by
    have:=hch.1
    unfold iS at this
    rw[ag]at this
    exact this.1
   unfold L1
   rw[if_pos (by rw[C9];simp[hch.2])]
  ·have OB:T n=true/\L1 g s (wG g x.1 x.2.1 x.2.2) L g.2.2.1.length n=L n:=by
    unfold T1 at hn
    unfold L1
    by_cases hk:n<g.2.2.1.length
    ·have hnb:iS g s (wG g x.1 x.2.1 x.2.2) T L n=false:=by
      cases hq:iS g s (wG g x.1 x.2.1 x.2.2) T L n
      ·rfl
      ·exact absurd ⟨hq,hk⟩ hch
     unfold iS at hnb
     cases hh:nN g s n
     ·rw[hh]at hn
      simp at hn
      exact⟨hn,by simp⟩
     ·rw[hh]at hnb
      simp at hnb
      exact⟨hnb.1,by simp[hk,hnb.2]⟩
    ·simp[hk]at hn
     exact⟨hn,by simp[hk]⟩
   rw[OB.2]
   rcases h.p2 n OB.1 with h1|h1
   ·rcases az.1 h1 with h1|h1
    ·exact .inr (h1 ▸ hdx)
    ·exact .inl (av.2 (.inl h1))
   ·exact .inr (h1.mono (λi=>ET i) EU)
def gD(T:Nat->Bool)(L:Nat->Int)(j:Nat):List ItS:=(List.range j).flatMap λn=>if T n=true then [((n:Int),((0:Int),L n))]else []
theorem sS(j:Nat):gD T L (j+1)=gD T L j++(if T j=true then [((j:Int),((0:Int),L j))]else []):=by
 unfold gD
 rw[kV,iy]
 simp
theorem vu(j:Nat):(gD T L j).length<=j:=by
 induction j with
 |zero=>simp[gD]
 |succ j ih=>
  rw[sS,ak]
  split
  ·simp;omega
  ·simp;omega
theorem kh{j:Nat}{y:ItS}:y∈gD T L j↔∃ n,n<j/\T n=true/\y=((n:Int),((0:Int),L n)):=by
 unfold gD
 simp only[dV,cE]
 constructor
 ·rintro⟨n,hn,hy⟩
  split at hy
  ·rename_i h;exact⟨n,hn,h,aM.1 hy⟩
  ·cases hy
 ·rintro⟨n,hn,h,rfl⟩
  exact⟨n,hn,by rw[if_pos h];exact aM.2 rfl⟩
theorem yM.full{l:List ItS}(h:yM g l T L []){p d:Int}{o:Option Nat}:At (l++gD T L g.2.2.1.length) p d o↔ClG g l p d o:=by
 rw[jm]
 have hd:∀ x∈l++gD T L g.2.2.1.length,qx g T L x:=λx hx=>by
  rcases av.1 hx with hx|hx
  ·exact(h.p1 x hx).resolve_left (λh=>by cases h)
  ·obtain⟨n,_,hn,rfl⟩:=kh.1 hx
   exact(h.p2 n hn).resolve_left (λh=>by cases h)
 constructor
 ·rintro(ha|ha)
  ·exact .base ha
  ·cases o with
   |none=>
    obtain⟨x,hx,rfl,rfl⟩:=ha
    obtain⟨n,_,hn,rfl⟩:=kh.1 hx
    exact h.t n hn
   |some b=>
    obtain⟨x,hx,rfl,rfl,hb⟩:=ha
    obtain⟨n,_,hn,rfl⟩:=kh.1 hx
    exact h.b n b hb
 ·intro ha
  rw[<-jm]
  refine Cl.least (A:=At (l++gD T L g.2.2.1.length)) (λp d o hb=>jm.2 (.inl hb)) (λp d o hs=>?_) ha
  obtain⟨rfl,hs⟩:=hs
  have key:∀ x∈l++gD T L g.2.2.1.length,stG g x.1 x.2.1 p->∃ n:Nat,p=(n:Int)/\((n:Int),((0:Int),L n))∈gD T L g.2.2.1.length/\∀ b,(wG g x.1 x.2.1 x.2.2).toNat.testBit b=true->(L n).toNat.testBit b=true:=λx hx hst=>by
   obtain⟨h1,h2⟩:=hd x hx p hst
   obtain⟨k,pr,rfl,h3,_⟩:=hst
   rw[ae]at h1 h2
   exact⟨k,rfl,kh.2 ⟨k,(bm.1 h3).1,h1,rfl⟩,h2⟩
  cases o with
  |none=>
   obtain⟨p',d',⟨x,hx,rfl,rfl⟩,hst⟩:=hs
   obtain⟨n,rfl,hm,_⟩:=key x hx hst
   exact⟨_,av.2 (.inr hm),rfl,rfl⟩
  |some b=>
   obtain⟨p',d',hst,⟨⟨x,hx,rfl,rfl⟩,hf⟩|⟨⟨x,hx,rfl,rfl,hb⟩,hn⟩⟩:=hs
   ·obtain⟨n,rfl,hm,hw⟩:=key x hx hst
    exact⟨_,av.2 (.inr hm),rfl,rfl,hw b (si.2 (.inl hf))⟩
   ·obtain⟨n,rfl,hm,hw⟩:=key x hx hst
    exact⟨_,av.2 (.inr hm),rfl,rfl,hw b (si.2 (.inr ⟨hn,hb⟩))⟩
end
noncomputable section
theorem yN{α:Type}(x:α)(l:List α):cz (x::l) 1 (((x::l).length:Nat):Int)=l:=by simp[cz]
set_option maxHeartbeats 2000000 in
theorem KB{g:GrS}(hg:Gs g){l:List ItS}(hl:OkI l)(hll:l.length<=100000):
 p47 N0 (g,((bsS g.2.1.length (tE g.2.2.1 g.2.1.length),inN g.2.1.length (tF g.2.2.1 g.2.1.length)),(l,())))=some ((eK g l,()),()):=by
 have hps:=hg.ps
 have C6:=fg hg hl
 obtain⟨k,hk⟩:∃ k,k=g.2.2.1.length:=⟨_,rfl⟩
 unfold p47
 simp only[aJ]
 simp only[bO,decide_eq_true_eq]
 simp only[<-hk,yE,qu,ae]
 rw[<-hk]at hps
 rw[if_pos ⟨by omega,by omega⟩,if_pos (by omega),if_pos ⟨by omega,by omega⟩,if_pos (by omega)]
 rw[aa (Kz (by omega:l.length<=1000000))]
 simp only
 refine aZ (λm z r=>∃ (T:Nat->Bool) (L:Nat->Int) (o:List ItS),z=(((g,((bsS g.2.1.length (tE g.2.2.1 g.2.1.length),inN g.2.1.length (tF g.2.2.1 g.2.1.length)),(bsS k T,(inN k L,o)))),()),())/\yM g l T L o/\m=o.length+nO k T L/\m<=101000/\r=some ((eK g l,()),())) ?_ N0 (l.length+nO k (λ_=>false) (λ_=>0)) _ _ (by
  have:=BA k (λ_=>false) (λ_=>0)
  unfold N0;omega) ⟨λ_=>false,λ_=>0,l,rfl,⟨λ_=>Bm,(λn h=>by cases h),(λn b h=>by simp at h),λx hx=>⟨hl.bd x hx,.base ⟨x,hx,rfl,rfl⟩,λb hb=>.base ⟨x,hx,rfl,rfl,hb⟩⟩,λx hx=>.inl hx,(λn h=>by cases h)⟩,rfl,by
  have:=BA k (λ_=>false) (λ_=>0)
  omega,rfl⟩
 rintro m z r ⟨T,L,o,rfl,hI,rfl,hm,rfl⟩ K hK
 cases o with
 |cons x o=>
  have c:(0:Int)<(((x::o).length:Nat):Int):=by rw[aO];omega
  have c2:(0:Int)<=1/\(1:Int)<=(((x::o).length:Nat):Int)/\True:=⟨by omega,by rw[aO];omega,trivial⟩
  have hlen:(x::o).length=o.length+1:=rfl
  obtain⟨hxb,_,_⟩:=hI.op x bx
  simp only[c,if_true,iE,Int.toNat_zero,gF,C2,aC]
  rw[if_pos c2]
  have OC:qx g T L x->K (((g,((bsS g.2.1.length (tE g.2.2.1 g.2.1.length),inN g.2.1.length (tF g.2.2.1 g.2.1.length)),(bsS k T,(inN k L,o)))),()),())=some ((eK g l,()),()):=λhd=>
   hK (o.length+nO k T L) _ _ (by omega) ⟨T,L,o,rfl,hI.skip hd,rfl,by omega,rfl⟩
  cases hn:gl g x.1 x.2.1 with
  |none=>
   simp only[au,if_false,yN]
   exact OC λq hq=>by
    obtain⟨_,_,_,_,h⟩:=hq
    rw[hn]at h;cases h
  |some y=>
   obtain⟨y1,y2⟩:=y
   cases y1
   ·simp only[if_true,au,if_false,yN]
    exact OC λq hq=>by
     obtain⟨_,_,_,_,h⟩:=hq
     rw[hn]at h;cases h
   ·have n3:=oR hg x.1
    have e77:p77 N0 ((bsS g.2.1.length (tE g.2.2.1 g.2.1.length),inN g.2.1.length (tF g.2.2.1 g.2.1.length)),(sR g x.1 x.2.1,(x.2.2,())))=some ((wG g x.1 x.2.1 x.2.2,()),()):=
     QA (λi=>Kb i) (λz hz=>Bx hg x.1 z (jE hz)) (by show(List.drop _ _).length<=_;rw[bB];unfold maxLen;omega) hxb
    have e76:=QN (g:=g) (s:=y2) (T:=T) (L:=L) hg hI.U (NS (g:=g) (p:=x.1) (d:=x.2.1) hxb) (bsS g.2.1.length (tE g.2.2.1 g.2.1.length),inN g.2.1.length (tF g.2.2.1 g.2.1.length)) o (by omega)
    rw[<-hk]at e76
    simp only[if_true,yN,QI hg hn,aC,e77]
    rw[e76]
    simp only[aC]
    have SF:=EP (g:=g) (s:=y2) (T:=T) (L:=L) hI.U (NS (g:=g) (p:=x.1) (d:=x.2.1) hxb) g.2.2.1.length (aq _)
    have sQ:=hI.step hg hn
    rw[<-hk]at SF sQ
    exact hK (o.length+(N1 g y2 (wG g x.1 x.2.1 x.2.2) T L k).length+nO k (T1 g y2 T k) (L1 g y2 (wG g x.1 x.2.1 x.2.2) L k)) _ _ (by omega) ⟨_,_,_,rfl,sQ,by rw[ak],by omega,rfl⟩
 |nil=>
  simp only[bH,show ¬(0:Int)<((0:Nat):Int) by omega,if_false,oO]
  rw[aa (Kz (by omega:l.length<=1000000))]
  simp only
  have hth:=vu (T:=T) (L:=L) k
  refine bQ (λj=>((),(Bz l (gD T L j),((j:Int),())))) (λ_=>some ((eK g l,()),())) k (λj hj M hM=>?_) N0 0 (aH _) (by unfold N0;omega)
  simp only[oT]at hM |-
  rcases ap j k with hjk|hjk
  ·have cj:(j:Int)<(k:Int):=by omega
   have hM:=hM hjk
   have hj1:IntKind.wrap .i64 ((j:Int)+1)=((j+1:Nat):Int):=cD hjk (by omega)
   have VW:=vu (T:=T) (L:=L) j
   rw[sS,<-aN]at hM
   simp only[cj,if_true,aQ,ae,jy _ hjk,kE _ hjk,hj1]
   cases hT:T j
   ·rw[hT]at hM
    simpa using hM
   ·rw[hT]at hM
    simp only[if_true,ak,aO,bH]at hM |-
    rw[if_pos (by omega),if_pos (by omega)]
    exact hM
  ·have cj:¬(j:Int)<(k:Int):=by omega
   have e:j=k:=by omega
   subst e
   simp only[cj,if_false]
   have hbd:∀ x∈l++gD T L j,kM x:=λx hx=>by
    rcases av.1 hx with hx|hx
    ·exact hl.bd x hx
    ·obtain⟨n,_,_,rfl⟩:=kh.1 hx
     exact hI.U n
   rw[Kl hbd (by rw[ak];omega)]
   simp only[aC]
   have Kw:∀ p d o,At (l++gD T L j) p d o↔ClG g l p d o:=λp d o=>by
    rw[hk];exact hI.full
   rw[((kg hbd).congr Kw).Bj C6]
def jo(g:GrS):List ItS:=[((g.2.2.1.length:Int),((0:Int),vY 63))]
theorem QO(g:GrS):p48 N0 (g,())=some ((jo g,()),()):=by
 unfold p48
 simp only[J6 63 (by omega) (by omega),aC]
 rfl
theorem KC(g:GrS):p24 N0 (g,())=some ((jo g,()),()):=by
 unfold p24
 simp only[J7,aC]
 rfl
theorem jO{g:GrS}(hg:Gs g):OkI (jo g):=by
 have:=hg.ps
 refine⟨λx hx=>?_,λx hx=>?_⟩
 ·rw[aM.1 hx];exact vd 63
 ·rw[aM.1 hx]
  exact⟨by show(0:Int)<=(g.2.2.1.length:Int);omega,by show(g.2.2.1.length:Int)<=12;omega,by show(0:Int)<=0;omega,by show(0:Int)<=20;omega⟩
def goX(g:GrS)(s:SyS)(x:ItS):List ItS:=if gl g x.1 x.2.1=some s then [(x.1,(x.2.1+1,x.2.2))]else []
def goL(g:GrS)(s:SyS)(l:List ItS):List ItS:=l.flatMap (goX g s)
theorem oU(g:GrS)(s:SyS):∀ l,(goL g s l).length<=l.length
 |[]=>by simp[goL]
 |x::l=>by
  have:=oU g s l
  unfold goL at *
  rw[kT,ak,aO]
  have:(goX g s x).length<=1:=by unfold goX;split <;> simp
  omega
theorem qy{g:GrS}{s:SyS}{l:List ItS}{y:ItS}:y∈goL g s l↔∃ x∈l,gl g x.1 x.2.1=some s/\y=(x.1,(x.2.1+1,x.2.2)):=by
 unfold goL
 rw[dV]
 constructor
 ·rintro⟨x,hx,hy⟩
  unfold goX at hy
  split at hy
  ·rename_i h;exact⟨x,hx,h,aM.1 hy⟩
  ·cases hy
 ·rintro⟨x,hx,h,rfl⟩
  exact⟨x,hx,by unfold goX;rw[if_pos h];exact aM.2 rfl⟩
theorem pC{g:GrS}(hg:Gs g)(s:SyS){l:List ItS}(hl:OkI l):OkI (goL g s l):=by
 refine⟨λy hy=>?_,λy hy=>?_⟩
 ·obtain⟨x,hx,_,rfl⟩:=qy.1 hy
  exact hl.bd x hx
 ·obtain⟨x,hx,hn,rfl⟩:=qy.1 hy
  have:=QH hg hn
  exact⟨this.1,this.2.1,by show 0<=x.2.1+1;omega,by show x.2.1+1<=20;omega⟩
theorem qz{l:List ItS}(hl:OkI l):OkI (fN l):=by
 have hc:=kg hl.bd
 exact Kt hc λp d o h=>hl.inU h
theorem BB(g:GrS)(s:SyS)(l:List ItS){j:Nat}(h:j<l.length):goL g s (l.take (j+1))=goL g s (l.take j)++goX g s l[j]:=by
 unfold goL
 rw[cZ _ _ h,iy]
 simp
theorem mI{y s:SyS}:((bif(y.1 == s.1)then decide (y.2=s.2)else false)=true)↔some y=some s:=by
 obtain⟨a,b⟩:=y
 obtain⟨c,d⟩:=s
 cases a <;> cases c <;> simp
theorem QP{g:GrS}(hg:Gs g)(s:SyS){l:List ItS}(hl:OkI l)(hll:l.length<=100000):p50 N0 (g,(l,(s,())))=some ((fN (goL g s l),()),()):=by
 unfold p50
 simp only[aJ,decide_eq_true_eq]
 refine bQ (λj=>((),(goL g s (l.take j),((j:Int),())))) (λ_=>some ((fN (goL g s l),()),())) l.length (λj hj K hK=>?_) N0 0 (aH _) (by unfold N0;omega)
 rcases ap j l.length with h|h
 ·have c:(j:Int)<(l.length:Int):=by omega
  have hK:=hK h
  have hj1:IntKind.wrap .i64 ((j:Int)+1)=((j+1:Nat):Int):=cD h (by omega)
  have hgl:=oU g s (l.take j)
  rw[aL]at hgl
  rw[BB g s l h]at hK
  have hrg:=hl.rg _ (bo h)
  simp only[c,decide_true,cond_true,aQ,if_true,ae,ah h,C2,aC,hj1]
  generalize l[j]=x at *
  generalize goL g s (l.take j)=out at *
  have hw:IntKind.wrap .i64 (x.2.1+1)=x.2.1+1:=bD (by omega) (by omega)
  rw[<-hK]
  unfold goX
  cases hn:gl g x.1 x.2.1 with
  |none=>simp
  |some y=>
   simp only[cond_true,hw]
   by_cases he:some y=some s
   ·rw[mI.2 he,cond_true,if_pos he,if_pos (by simp;omega),if_pos (by simp;omega)]
   ·have hf:(bif(y.1 == s.1)then decide (y.2=s.2)else false)=false:=by
     cases hq:(bif(y.1 == s.1)then decide (y.2=s.2)else false)
     ·rfl
     ·exact absurd (mI.1 hq) he
    rw[hf,cond_false,if_neg he,b9]
 ·have c:¬(j:Int)<(l.length:Int):=by omega
  simp only[c,decide_false,cond_false]
  rw[bR h]
  have hok:=pC hg s hl
  have:=oU g s l
  rw[Kl hok.bd (by omega)]
  rfl
theorem KD{g:GrS}(hg:Gs g)(s:SyS){l:List ItS}(hl:OkI l)(hll:l.length<=100000):p26 N0 (g,(l,(s,())))=some ((fN (goL g s l),()),()):=by
 unfold p26
 simp only[aJ,decide_eq_true_eq]
 refine bQ (λj=>((),(goL g s (l.take j),((j:Int),())))) (λ_=>some ((fN (goL g s l),()),())) l.length (λj hj K hK=>?_) N0 0 (aH _) (by unfold N0;omega)
 rcases ap j l.length with h|h
 ·have c:(j:Int)<(l.length:Int):=by omega
  have hK:=hK h
  have hj1:IntKind.wrap .i64 ((j:Int)+1)=((j+1:Nat):Int):=cD h (by omega)
  have hgl:=oU g s (l.take j)
  rw[aL]at hgl
  rw[BB g s l h]at hK
  have hrg:=hl.rg _ (bo h)
  simp only[c,decide_true,cond_true,aQ,if_true,ae,ah h,C3,aC,hj1]
  generalize l[j]=x at *
  generalize goL g s (l.take j)=out at *
  have hw:IntKind.wrap .i64 (x.2.1+1)=x.2.1+1:=bD (by omega) (by omega)
  rw[<-hK]
  unfold goX
  cases hn:gl g x.1 x.2.1 with
  |none=>simp
  |some y=>
   simp only[cond_true,hw]
   by_cases he:some y=some s
   ·rw[mI.2 he,cond_true,if_pos he,if_pos (by simp;omega),if_pos (by simp;omega)]
   ·have hf:(bif(y.1 == s.1)then decide (y.2=s.2)else false)=false:=by
     cases hq:(bif(y.1 == s.1)then decide (y.2=s.2)else false)
     ·rfl
     ·exact absurd (mI.1 hq) he
    rw[hf,cond_false,if_neg he,b9]
 ·have c:¬(j:Int)<(l.length:Int):=by omega
  simp only[c,decide_false,cond_false]
  rw[bR h]
  have hok:=pC hg s hl
  have:=oU g s l
  rw[CZ hok.bd (by omega)]
  rfl
end
noncomputable section
structure G2(A:SyS->Prop)(l:List SyS):Prop where
 st:l.Pairwise λx y=>ltS x y=true
 mem:∀ s,s∈l↔A s
theorem EW:∀ {l m:List SyS},l.Pairwise (λx y=>ltS x y=true)->m.Pairwise (λx y=>ltS x y=true)->(∀ x,x∈l↔x∈m)->l=m
 |[],[],_,_,_=>rfl
 |[],b::m,_,_,h=>by have:=(h b).2 bx;cases this
 |a::l,[],_,_,h=>by have:=(h a).1 bx;cases this
 |a::l,b::m,h1,h2,h=>by
  obtain⟨p1,p2⟩:=dH.1 h1
  obtain⟨q1,q2⟩:=dH.1 h2
  have e:a=b:=by
   rcases az.1 ((h a).1 bx)with e|ha
   ·exact e
   rcases az.1 ((h b).2 bx)with e|hb
   ·exact e.symm
   exact(yg (p1 b hb) (q1 a ha)).elim
  subst e
  have:=EW p2 q2 (λx=>by
   constructor
   ·intro hx
    rcases az.1 ((h x).1 (bE _ hx))with e|hm
    ·subst e
     have:=p1 x hx
     rw[mu]at this;cases this
    ·exact hm
   ·intro hx
    rcases az.1 ((h x).2 (bE _ hx))with e|hm
    ·subst e
     have:=q1 x hx
     rw[mu]at this;cases this
    ·exact hm)
  rw[this]
theorem G2.Bj{A:SyS->Prop}{l m:List SyS}(h:G2 A l)(k:G2 A m):l=m:=EW h.st k.st λs=>(h.mem s).trans (k.mem s).symm
def Nxs(g:GrS)(l:List ItS)(s:SyS):Prop:=∃ x∈l,gl g x.1 x.2.1=some s
def sk(g:GrS)(out:List SyS)(x:ItS):List SyS:=match gl g x.1 x.2.1 with
 |some s=>if s∈out then out else out++[s]
 |none=>out
def pD(g:GrS)(l:List ItS):List SyS:=l.foldl (sk g) []
theorem G3(g:GrS)(l:List ItS){j:Nat}(h:j<l.length):pD g (l.take (j+1))=sk g (pD g (l.take j)) l[j]:=by
 unfold pD
 rw[cZ _ _ h,iA]
 rfl
theorem G4(g:GrS)(l:List ItS):(pD g l).Nodup/\∀ s,s∈pD g l↔Nxs g l s:=by
 have key:∀ (l:List ItS) (o:List SyS),o.Nodup->(l.foldl (sk g) o).Nodup/\∀ s,s∈l.foldl (sk g) o↔s∈o\/Nxs g l s:=by
  intro l
  induction l with
  |nil=>intro o ho;exact⟨ho,λs=>⟨.inl,λh=>h.elim id λ⟨x,hx,_⟩=>by cases hx⟩⟩
  |cons x l ih=>
   intro o ho
   have hx:(sk g o x).Nodup/\∀ s,s∈sk g o x↔s∈o\/gl g x.1 x.2.1=some s:=by
    unfold sk
    cases hn:gl g x.1 x.2.1 with
    |none=>exact⟨ho,λs=>by simp⟩
    |some y=>
     simp only
     split
     ·rename_i hm
      refine⟨ho,λs=>⟨.inl,?_⟩⟩
      rintro(h|h)
      ·exact h
      ·cases h;exact hm
     ·rename_i hm
      refine⟨List.nodup_append.2 ⟨ho,rf.2 ⟨by simp,List.nodup_nil⟩,λa ha b hb=>by
       rw[aM.1 hb]
       intro e;exact hm (e ▸ ha)⟩,λs=>?_⟩
      rw[av,aM]
      constructor
      ·rintro(h|h)
       ·exact .inl h
       ·exact .inr (by rw[h])
      ·rintro(h|h)
       ·exact .inl h
       ·cases h;exact .inr rfl
   obtain⟨h1,h2⟩:=ih (sk g o x) hx.1
   refine⟨h1,λs=>(h2 s).trans ?_⟩
   rw[hx.2]
   constructor
   ·rintro((h|h)|⟨z,hz,h⟩)
    ·exact .inl h
    ·exact .inr ⟨x,bx,h⟩
    ·exact .inr ⟨z,bE _ hz,h⟩
   ·rintro(h|⟨z,hz,h⟩)
    ·exact .inl (.inl h)
    ·rcases az.1 hz with rfl|hz
     ·exact .inl (.inr h)
     ·exact .inr ⟨z,hz,h⟩
 obtain⟨h1,h2⟩:=key l [] List.nodup_nil
 exact⟨h1,λs=>(h2 s).trans (by simp)⟩
theorem KE(g:GrS)(o:List SyS)(x:ItS):(sk g o x).length<=o.length+1:=by
 unfold sk
 split
 ·split
  ·omega
  ·simp
 ·omega
theorem BC(g:GrS)(l:List ItS):(pD g l).length<=l.length:=by
 have key:∀ (l:List ItS) (o:List SyS),(l.foldl (sk g) o).length<=o.length+l.length:=by
  intro l
  induction l with
  |nil=>intro o;simp
  |cons x l ih=>
   intro o
   have h1:=ih (sk g o x)
   have h2:=KE g o x
   simp only[q9,aO]
   omega
 simpa [pD]using key l []
def bV(g:GrS)(l:List ItS):List SyS:=gZ (pD g l)
theorem tw(g:GrS)(l:List ItS):G2 (Nxs g l) (bV g l):=by
 obtain⟨h1,h2⟩:=G4 g l
 have hp:=iL (pD g l)
 have hnd:(gZ (pD g l)).Nodup:=hp.nodup_iff.2 h1
 refine⟨?_,λs=>(hp.mem_iff).trans (h2 s)⟩
 have SG:=(mC (pD g l)).and hnd
 refine SG.imp λ{a b} h=>?_
 rcases uK a b with h'|h'|h'
 ·exact h'
 ·exact absurd h' h.2
 ·have:=h.1
  unfold leS at this
  rw[h']at this;cases this
theorem lQ(g:GrS)(l:List ItS):(bV g l).length<=l.length:=by
 unfold bV
 rw[(iL _).length_eq]
 exact BC g l
theorem QQ{o:List SyS}(ho:o.length<=1000000)(s:SyS):p81 N0 (o,(s,()))=some ((decide (s∈o),()),()):=by
 have h103:∃ i:Int,ML N0 (o,(s,()))=some ((i,()),())/\(0<=i↔s∈o):=by
  unfold ML
  simp only[aJ,decide_eq_true_eq]
  by_cases hs:s∈o
  ·-- the first place
   have QR:∃ i,∃ h:i<o.length,o[i]=s/\∀ k (h':k<o.length),k<i->o[k]≠s:=by
    have:∀ n,(∃ i,i<n/\∃ h:i<o.length,o[i]=s)->∃ i,∃ h:i<o.length,o[i]=s/\∀ k (h':k<o.length),k<i->o[k]≠s:=by
     intro n
     induction n with
     |zero=>rintro⟨i,h,_⟩;omega
     |succ n ih=>
      rintro⟨i,hi,hl,he⟩
      by_cases hex:∃ k,k<n/\∃ h:k<o.length,o[k]=s
      ·exact ih hex
      ·have:i=n:=by
        apply jC
        intro hne
        exact hex ⟨i,by omega,hl,he⟩
       subst this
       exact⟨i,hl,he,λk h' hk e=>hex ⟨k,hk,h',e⟩⟩
    obtain⟨i,hi,he⟩:=fu.1 hs
    exact this (i+1) ⟨i,by omega,hi,he⟩
   obtain⟨i,hi,he,hno⟩:=QR
   refine⟨i,?_,⟨λ_=>hs,λ_=>aQ i⟩⟩
   refine bQ (λj=>((),((j:Int),()))) (λ_=>some (((i:Int),()),())) i (λj hj K hK=>?_) N0 0 (aH _) (by unfold N0;omega)
   have hjl:j<o.length:=by omega
   have c:(j:Int)<(o.length:Int):=by omega
   have hj1:IntKind.wrap .i64 ((j:Int)+1)=((j+1:Nat):Int):=cD hjl (by omega)
   simp only[c,decide_true,cond_true,aQ,if_true,ae,ah hjl,hj1]
   by_cases e:j=i
   ·subst e
    have:(bif(s.1 == o[j].1)then decide (s.2=o[j].2)else false)=true:=mI.2 (by rw[he])
    rw[this];rfl
   ·have hne:=hno j hjl (by omega)
    have:(bif(s.1 == o[j].1)then decide (s.2=o[j].2)else false)=false:=by
     cases hq:(bif(s.1 == o[j].1)then decide (s.2=o[j].2)else false)
     ·rfl
     ·have:=mI.1 hq
      cases this
      exact absurd rfl hne
    rw[this]
    exact hK (by omega)
  ·refine⟨-1,?_,⟨λh=>by omega,λh=>absurd h hs⟩⟩
   refine bQ (λj=>((),((j:Int),()))) (λ_=>some ((-1,()),())) o.length (λj hj K hK=>?_) N0 0 (aH _) (by unfold N0;omega)
   rcases ap j o.length with hjl|hjl
   ·have c:(j:Int)<(o.length:Int):=by omega
    have hj1:IntKind.wrap .i64 ((j:Int)+1)=((j+1:Nat):Int):=cD hjl (by omega)
    simp only[c,decide_true,cond_true,aQ,if_true,ae,ah hjl,hj1]
    have:(bif(s.1 == o[j].1)then decide (s.2=o[j].2)else false)=false:=by
     cases hq:(bif(s.1 == o[j].1)then decide (s.2=o[j].2)else false)
     ·rfl
     ·have:=mI.1 hq
      cases this
      exact absurd (bo hjl) hs
    rw[this]
    exact hK hjl
   ·have c:¬(j:Int)<(o.length:Int):=by omega
    simp only[c,decide_false,cond_false]
 obtain⟨i,h1,h2⟩:=h103
 unfold p81
 simp only[h1,aC]
 congr 3
 by_cases hs:s∈o
 ·simp[h2.2 hs,hs]
 ·have:¬0<=i:=λh=>hs (h2.1 h)
  simp[this,hs]
theorem QS(g:GrS){l:List ItS}(hll:l.length<=100000):p49 N0 (g,(l,()))=some ((bV g l,()),()):=by
 unfold p49
 simp only[aJ,bO,decide_eq_true_eq]
 refine bQ (λj=>((),(pD g (l.take j),((j:Int),())))) (λ_=>some ((bV g l,()),())) l.length (λj hj K hK=>?_) N0 0 (aH _) (by unfold N0;omega)
 have hdl:=BC g (l.take j)
 rw[aL]at hdl
 rcases ap j l.length with h|h
 ·have c:(j:Int)<(l.length:Int):=by omega
  have hK:=hK h
  have hj1:IntKind.wrap .i64 ((j:Int)+1)=((j+1:Nat):Int):=cD h (by omega)
  rw[G3 g l h]at hK
  simp only[c,if_true,aQ,ae,ah h,C2,aC,hj1]
  generalize l[j]=x at *
  generalize pD g (l.take j)=out at *
  rw[<-hK]
  unfold sk
  cases hn:gl g x.1 x.2.1 with
  |none=>simp
  |some y=>
   simp only[if_true,QQ (by omega:out.length<=1000000) y,aC]
   by_cases hm:y∈out
   ·simp[hm]
   ·simp only[hm,decide_false,aI,if_true,aO,bH,if_false]
    rw[if_pos (by omega),if_pos (by omega)]
 ·have c:¬(j:Int)<(l.length:Int):=by omega
  rw[bR h]at hdl |-
  simp only[c,if_false]
  have h82:p82 N0 (pD g l,((),()))=some ((),(bV g l,())):=by
   unfold p82
   rw[if_pos (by show(pD g l).length<_;omega)]
   rfl
  rw[h82]
  rfl
end
noncomputable section
def NW(kb:Bool)(o:List SyS)(s:SyS):Bool:=match o[o.length-1]? with
 |some y=>(y.1 == kb)&&decide (s.2<=y.2)
 |none=>false
def okS(kb:Bool)(o:List SyS)(s:SyS):Bool:=(s.1 == kb)&&!NW kb o s
def jz(g:GrS)(l:List ItS)(kb:Bool)(o:List SyS)(b0:SyS):Nat->SyS×Bool
 |0=>(b0,false)
 |j+1=>match l[j]? with
  |some x=>(match gl g x.1 x.2.1 with
   |some s=>if(okS kb o s&&(!(jz g l kb o b0 j).2||decide (s.2<(jz g l kb o b0 j).1.2)))=true then(s,true)else jz g l kb o b0 j
   |none=>jz g l kb o b0 j)
  |none=>jz g l kb o b0 j
theorem xh(g:GrS)(l:List ItS)(kb:Bool)(o:List SyS)(b0:SyS){j:Nat}(h:j<l.length):jz g l kb o b0 (j+1)=(match gl g l[j].1 l[j].2.1 with
 |some s=>if(okS kb o s&&(!(jz g l kb o b0 j).2||decide (s.2<(jz g l kb o b0 j).1.2)))=true then(s,true)else jz g l kb o b0 j
 |none=>jz g l kb o b0 j):=by
 rw[jz,ah h]
theorem xi(g:GrS)(l:List ItS)(kb:Bool)(o:List SyS)(b0:SyS):∀ j,j<=l.length->
 ((jz g l kb o b0 j).2=false->∀ k (h:k<l.length) s,k<j->gl g l[k].1 l[k].2.1=some s->okS kb o s=false)/\
 ((jz g l kb o b0 j).2=true->okS kb o (jz g l kb o b0 j).1=true/\(∃ x∈l,gl g x.1 x.2.1=some (jz g l kb o b0 j).1)/\∀ k (h:k<l.length) s,k<j->gl g l[k].1 l[k].2.1=some s->okS kb o s=true->(jz g l kb o b0 j).1.2<=s.2)
 |0,_=>⟨λ_ k h s hk=>by omega,λh=>by cases h⟩
 |j+1,hj=>by
  obtain⟨ih1,ih2⟩:=xi g l kb o b0 j (by omega)
  have hjl:j<l.length:=by omega
  rw[xh g l kb o b0 hjl]
  generalize jz g l kb o b0 j=B at *
  have hkj:∀ k (h:k<l.length),k<j+1->k<j\/k=j:=λk _ h=>by omega
  cases hn:gl g l[j].1 l[j].2.1 with
  |none=>
   simp only
   refine⟨λhb k hk s yO hs=>?_,λhb=>⟨(ih2 hb).1,(ih2 hb).2.1,λk hk s yO hs=>?_⟩⟩
   ·rcases hkj k hk yO with h|h
    ·exact ih1 hb k hk s h hs
    ·subst h;rw[hn]at hs;cases hs
   ·rcases hkj k hk yO with h|h
    ·exact(ih2 hb).2.2 k hk s h hs
    ·subst h;rw[hn]at hs;cases hs
  |some y=>
   simp only
   by_cases hc:(okS kb o y&&(!B.2||decide (y.2<B.1.2)))=true
   ·rw[if_pos hc]
    rw[ag,aG]at hc
    refine⟨(λh=>by cases h),λ_=>⟨hc.1,⟨_,bo hjl,hn⟩,λk hk s yO hs hok=>?_⟩⟩
    rcases hkj k hk yO with h|h
    ·rcases hc.2 with h2|h2
     ·have:=ih1 (by simpa using h2) k hk s h hs
      rw[this]at hok;cases hok
     ·by_cases hB:B.2=true
      ·have:=(ih2 hB).2.2 k hk s h hs hok
       have h2:y.2<B.1.2:=by simpa using h2
       show y.2<=s.2
       omega
      ·have:=ih1 (by simpa using hB) k hk s h hs
       rw[this]at hok;cases hok
    ·subst h
     rw[hn]at hs
     cases hs
     exact iE _
   ·rw[if_neg hc]
    have hc':okS kb o y=true->B.2=true/\B.1.2<=y.2:=λhok=>by
     rw[hok,bI]at hc
     have:=hc
     simp only[aG,bz,decide_eq_true_eq,not_or,Bool.not_eq_false]at this
     exact⟨this.1,by omega⟩
    refine⟨λhb k hk s yO hs=>?_,λhb=>⟨(ih2 hb).1,(ih2 hb).2.1,λk hk s yO hs hok=>?_⟩⟩
    ·rcases hkj k hk yO with h|h
     ·exact ih1 hb k hk s h hs
     ·subst h
      rw[hn]at hs
      cases hs
      cases hok:okS kb o y
      ·rfl
      ·rw[(hc' hok).1]at hb;cases hb
    ·rcases hkj k hk yO with h|h
     ·exact(ih2 hb).2.2 k hk s h hs hok
     ·subst h
      rw[hn]at hs
      cases hs
      exact(hc' hok).2
structure BD(g:GrS)(l:List ItS)(kb:Bool)(o:List SyS):Prop where
 st:o.Pairwise λx y=>ltS x y=true
 a:∀ s∈o,Nxs g l s/\(s.1=true->kb=true)
 al:∀ s,Nxs g l s->s∈o\/(s.1=kb/\∀ y∈o,ltS y s=true)\/(s.1=true/\kb=false)
theorem SH{o:List SyS}(h:o.Pairwise λx y=>ltS x y=true){y:SyS}(hy:o[o.length-1]?=some y):∀ z∈o,z=y\/ltS z y=true:=by
 intro z hz
 obtain⟨i,hi,rfl⟩:=fu.1 hz
 obtain⟨hl,rfl⟩:=bm.1 hy
 by_cases e:i=o.length-1
 ·subst e;exact .inl rfl
 ·exact .inr (nS.1 h i (o.length-1) hi hl (by omega))
theorem tz{g:GrS}{l:List ItS}{kb:Bool}{o:List SyS}(h:BD g l kb o)(s:SyS):okS kb o s=true↔s.1=kb/\∀ y∈o,ltS y s=true:=by
 unfold okS NW
 rw[ag,beq_iff_eq]
 refine and_congr_right λhk=>?_
 cases hy:o[o.length-1]? with
 |none=>
  have:o=[]:=by
   rcases List.eq_nil_or_concat o with h|⟨a,b,rfl⟩
   ·exact h
   ·simp at hy
  subst this
  simp
 |some y=>
  have hym:=cJ hy
  have hyk:=(h.a y hym).2
  have key:ltS y s=true↔¬((y.1 == kb)=true/\s.2<=y.2):=by
   rw[mq,hk]
   cases hy1:y.1
   ·cases kb <;> simp
   ·rw[hyk hy1];simp
  simp only[bz,ir,decide_eq_false_iff_not]
  constructor
  ·intro hn z hz
   have hys:ltS y s=true:=key.2 λ⟨a,b⟩=>by
    rcases hn with hn|hn
    ·rw[a]at hn;cases hn
    ·exact hn b
   rcases SH h.st hy z hz with rfl|hlt
   ·exact hys
   ·exact yf hlt hys
  ·intro fW
   have:=key.1 (fW y hym)
   by_cases hb:(y.1 == kb)=true
   ·exact .inr λhle=>this ⟨hb,hle⟩
   ·exact .inl (by simpa using hb)
theorem BD.more{g:GrS}{l:List ItS}{kb:Bool}{o:List SyS}(h:BD g l kb o){s:SyS}(hok:okS kb o s=true)(hs:Nxs g l s)(Pb:∀ t,Nxs g l t->okS kb o t=true->s.2<=t.2):BD g l kb (o++[s]):=by
 obtain⟨h1,h2⟩:=(tz h s).1 hok
 refine⟨gJ.2 ⟨h.st,nT _ _,λa ha b hb=>by rw[aM.1 hb];exact h2 a ha⟩,λt ht=>?_,λt ht=>?_⟩
 ·rcases av.1 ht with ht|ht
  ·exact h.a t ht
  ·rw[aM.1 ht]
   exact⟨hs,λe=>by rw[<-h1,e]⟩
 ·rcases h.al t ht with h3|⟨h3,h4⟩|h3
  ·exact .inl (av.2 (.inl h3))
  ·have hle:=Pb t ht ((tz h t).2 ⟨h3,h4⟩)
   by_cases e:t=s
   ·exact .inl (av.2 (.inr (aM.2 e)))
   ·refine .inr (.inl ⟨h3,λy hy=>?_⟩)
    rcases av.1 hy with hy|hy
    ·exact h4 y hy
    ·rw[aM.1 hy,mq]
     right
     refine⟨h1.trans h3.symm,?_⟩
     have hne:t.2≠s.2:=λe2=>e (by
      obtain⟨a,b⟩:=t
      obtain⟨c,d⟩:=s
      simp only at *
      rw[h3,h1,e2])
     omega
  ·exact .inr (.inr h3)
def goA(g:GrS)(l:List ItS)(k:Nat)(s:SyS):Prop:=Nxs g l s/\(s.1=true->2<=k)/\1<=k
theorem BD.fin{g:GrS}{l:List ItS}{kb:Bool}{o:List SyS}(h:BD g l kb o)(hno:∀ t,Nxs g l t->okS kb o t=false):G2 (goA g l (if kb=true then 2 else 1)) o:=by
 refine⟨h.st,λs=>⟨λhs=>?_,λhs=>?_⟩⟩
 ·obtain⟨h1,h2⟩:=h.a s hs
  refine⟨h1,λe=>?_,?_⟩
  ·rw[if_pos (h2 e)];exact aq _
  ·split <;> omega
 ·obtain⟨h1,h2,_⟩:=hs
  rcases h.al s h1 with h3|h3|h3
  ·exact h3
  ·have:=(tz h s).2 h3
   rw[hno s h1]at this;cases this
  ·have:=h2 h3.1
   rw[if_neg (by rw[h3.2];exact iz)]at this
   omega
def goS(g:GrS)(l:List ItS):Nat->List SyS
 |0=>[]
 |1=>(bV g l).filter λs=>!s.1
 |_=>bV g l
theorem KF(g:GrS)(l:List ItS)(k:Nat):G2 (goA g l k) (goS g l k):=by
 have h:=tw g l
 match k with
 |0=>exact⟨.nil,λs=>⟨(λh=>by cases h),(λh=>by have:=h.2.2;omega)⟩⟩
 |1=>
  refine⟨h.st.filter _,λs=>?_⟩
  show s∈(bV g l).filter _↔_
  rw[od,h.mem]
  unfold goA
  cases hs:s.1 <;> simp
 |k+2=>
  refine⟨h.st,λs=>?_⟩
  show s∈bV g l↔_
  rw[h.mem]
  unfold goA
  constructor
  ·intro h;exact⟨h,λ_=>by omega,by omega⟩
  ·intro h;exact h.1
theorem Da(g:GrS)(l:List ItS)(k:Nat)(hk:k<2):BD g l (decide (k=1)) (goS g l k):=by
 have h:=KF g l k
 refine⟨h.st,λs hs=>?_,λs hs=>?_⟩
 ·obtain⟨h1,h2,h3⟩:=(h.mem s).1 hs
  refine⟨h1,λe=>?_⟩
  have:=h2 e
  omega
 ·by_cases hm:s∈goS g l k
  ·exact .inl hm
  ·right
   match k,hk with
   |0,_=>
    cases h1:s.1
    ·exact .inl ⟨rfl,λy hy=>by cases hy⟩
    ·exact .inr ⟨rfl,rfl⟩
   |1,_=>
    cases h1:s.1
    ·exact absurd ((h.mem s).2 ⟨hs,(λe=>by rw[h1]at e;cases e),by omega⟩) hm
    ·refine .inl ⟨rfl,λy hy=>?_⟩
     obtain⟨_,h3,_⟩:=(h.mem y).1 hy
     rw[mq]
     left
     refine⟨?_,h1⟩
     cases h4:y.1
     ·rfl
     ·have:=h3 h4;omega
set_option maxHeartbeats 2000000 in
theorem QT(g:GrS){l:List ItS}(hll:l.length<=100000):p72 N0 (g,(l,()))=some ((bV g l,()),()):=by
 have hsl:=lQ g l
 unfold p72
 simp only[aJ]
 simp only[bO,decide_eq_true_eq]
 refine bQ (λk=>((),(goS g l k,((k:Int),())))) (λ_=>some ((bV g l,()),())) 2 (λk hk K hK=>?_) N0 0 (aH _) (by unfold N0;omega)
 rcases ap k 2 with hk2|hk2
 case inr=>
  have e:k=2:=by omega
  subst e
  simp only[show ¬((2:Nat):Int)<2 by omega,if_false]
  rfl
 have c:(k:Int)<2:=by omega
 have hk1:IntKind.wrap .i64 ((k:Int)+1)=((k+1:Nat):Int):=cD (by omega:k<1000) (by omega)
 have hK:=hK hk2
 obtain⟨kb,hkb⟩:∃ kb,kb=decide ((k:Int)=1):=⟨_,rfl⟩
 have SI:kb=decide (k=1):=by rw[hkb];congr 1;exact propext (by omega)
 have hgo:(if kb=true then 2 else 1)=k+1:=by
  rw[SI]
  by_cases e:k=1
  ·simp[e]
  ·have:k=0:=by omega
   simp[this]
 simp only[c,if_true,hk1,<-hkb]
 refine aZ (λm z r=>∃ (o:List SyS) (mo:Bool),z=((),(o,(mo,())))/\BD g l kb o/\(mo=false->∀ t,Nxs g l t->okS kb o t=false)/\m=ij (bV g l) (λs=>s∈o)+(if mo=true then 1 else 0)/\r=some ((bV g l,()),())) ?_ N0 (ij (bV g l) (λs=>s∈goS g l k)+1) _ _ (by
  have:=jg (bV g l) (λs=>s∈goS g l k)
  unfold N0;omega) ⟨goS g l k,true,rfl,by rw[SI];exact Da g l k hk2,(λh=>by cases h),rfl,rfl⟩
 rintro m z r ⟨o,mo,rfl,hI,hno,rfl,rfl⟩ M hM
 have hol:o.length<=l.length:=by
  have hnd:o.Nodup:=hI.st.imp λ{a b} h e=>by subst e;rw[mu]at h;cases h
  have:=rR (λ(s:SyS) (c:Nat)=>∃ x,l[c]?=some x/\gl g x.1 x.2.1=some s) (λs t c ⟨x,h1,h2⟩ ⟨y,h3,h4⟩=>by
   rw[h1]at h3;cases h3
   rw[h2]at h4;cases h4;rfl) l.length o hnd (λs hs=>by
   obtain⟨x,hx,hn⟩:=(hI.a s hs).1
   obtain⟨i,hi,rfl⟩:=fu.1 hx
   exact⟨i,hi,_,ah hi,hn⟩)
  exact this
 cases mo
 ·simp only[au,if_false]
  have h1:=hI.fin (hno rfl)
  rw[hgo]at h1
  rw[h1.Bj (KF g l (k+1))]
  exact hK
 simp only[if_true]at hM |-
 refine bQ (λj=>((o,((jz g l kb o (false,0) j).1,())),((jz g l kb o (false,0) j).2,((j:Int),())))) (λ_=>some ((bV g l,()),())) l.length (λj hj L hL=>?_) N0 0 (aH _) (by unfold N0;omega)
 rcases ap j l.length with h|h
 ·have cj:(j:Int)<(l.length:Int):=by omega
  have hL:=hL h
  have hj1:IntKind.wrap .i64 ((j:Int)+1)=((j+1:Nat):Int):=cD h (by omega)
  rw[xh g l kb o (false,0) h]at hL
  simp only[cj,if_true,aQ,ae,ah h,C3,aC,hj1]
  generalize l[j]=x at *
  generalize jz g l kb o (false,0) j=B at *
  obtain⟨B1,B2⟩:=B
  rw[<-hL]
  clear hL hM hK
  by_cases ho:(0:Int)<((o.length:Nat):Int)
  ·have hw:IntKind.wrap .i64 ((o.length:Int)-1)=((o.length-1:Nat):Int):=by rw[bD (by omega) (by omega)];omega
   have xb:o.length-1<o.length:=by omega
   simp only[ho,if_true,hw,aQ,ae,ah xb]
   unfold okS NW
   rw[ah xb]
   generalize o[o.length-1]=y
   cases hn:gl g x.1 x.2.1 with
   |none=>
    by_cases h2:(y.1 == kb)=true
    ·simp
    ·simp
   |some s=>
    simp only[aB,au,if_false]
    cases h1:(s.1 == kb)
    ·simp
    ·by_cases h2:(y.1 == kb)=true
     ·by_cases h4:s.2<=y.2
      ·simp[h4,h2]
      ·cases B2
       ·simp[h4,h2]
       ·by_cases h3:s.2<B1.2
        ·simp[h3,h4,h2]
        ·simp[h3,h4,h2]
     ·cases B2
      ·simp[h2]
      ·by_cases h3:s.2<B1.2
       ·simp[h3,h2]
       ·simp[h3,h2]
  ·have:o=[]:=qL.1 (by omega)
   subst this
   simp only[ho,if_false]
   unfold okS NW
   cases hn:gl g x.1 x.2.1 with
   |none=>simp
   |some s=>
    simp only[aB,au,if_false]
    cases h1:(s.1 == kb)
    ·simp
    ·cases B2
     ·simp
     ·by_cases h3:s.2<B1.2
      ·simp[h3]
      ·simp[h3]
 ·have cj:¬(j:Int)<(l.length:Int):=by omega
  have e:j=l.length:=by omega
  subst e
  simp only[cj,if_false]
  obtain⟨s1,s2⟩:=xi g l kb o (false,0) l.length (aq _)
  have hNx:∀ t,Nxs g l t->∃ k,∃ h:k<l.length,gl g l[k].1 l[k].2.1=some t:=λt ⟨x,hx,hn⟩=>by
   obtain⟨i,hi,rfl⟩:=fu.1 hx
   exact⟨i,hi,hn⟩
  cases hB:(jz g l kb o (false,0) l.length).2
  ·simp only[au,if_false]
   refine hM (ij (bV g l) (λs=>s∈o)) _ _ (by omega) ⟨o,false,rfl,hI,λ_ t ht=>?_,rfl,rfl⟩
   obtain⟨i,hi,hn⟩:=hNx t ht
   exact s1 hB i hi t hi hn
  ·obtain⟨b1,b2,b3⟩:=s2 hB
   simp only[if_true,aO,bH]
   rw[if_pos (by omega),if_pos (by omega)]
   have hI':=hI.more b1 b2 λt ht hok=>by
    obtain⟨i,hi,hn⟩:=hNx t ht
    exact b3 i hi t hi hn hok
   have sW:¬(jz g l kb o (false,0) l.length).1∈o:=λhm=>by
    have:=((tz hI _).1 b1).2 _ hm
    rw[mu]at this;cases this
   have hlt:=oN (U:=bV g l) (P:=λs=>s∈o) (Q:=λs=>s∈o++[(jz g l kb o (false,0) l.length).1]) (λu _ hu=>av.2 (.inl hu)) (((tw g l).mem _).2 b2) sW (av.2 (.inr (aM.2 rfl)))
   exact hM (ij (bV g l) (λs=>s∈o++[(jz g l kb o (false,0) l.length).1])+1) _ _ (by omega) ⟨_,true,rfl,hI',(λh=>by cases h),rfl,rfl⟩
end
noncomputable section
theorem wrap_u8{n:Int}(h:0<=n):IntKind.wrap .u8 n=n % 256:=by
 simp[IntKind.wrap,IntKind.bits,IntKind.signed]
def eM(a:Int)(i:Nat):Int:=((a.toNat / 2 ^ (8*i) % 256:Nat):Int)
def vz(x:ItS):List Int:=[eM x.1 1,eM x.1 0,eM x.2.1 1,eM x.2.1 0]++(List.range 8).map (eM x.2.2)
def dj(l:List ItS):List Int:=l.flatMap vz
theorem nP(x:ItS):(vz x).length=12:=by simp[vz]
theorem G5{a b:Nat}{n:Nat}(h:∀ i,i<n->a / 2 ^ (8*i) % 256=b / 2 ^ (8*i) % 256)(ha:a<2 ^ (8*n))(hb:b<2 ^ (8*n)):a=b:=by
 induction n generalizing a b with
 |zero=>simp at ha hb;omega
 |succ n ih=>
  have h0:=h 0 (by omega)
  simp only[lg,lh,li]at h0
  have h1:a / 256=b / 256:=by
   have hp:(2:Nat) ^ (8*(n+1))=256*2 ^ (8*n):=by
    rw[show 8*(n+1)=8+8*n by omega,Nat.pow_add]
   refine ih (λi hi=>?_) ?_ ?_
   ·have:=h (i+1) (by omega)
    rw[show 8*(i+1)=8+8*i by omega,Nat.pow_add,<-nV,<-nV]at this
    exact this
   ·rw[hp]at ha
    exact(Nat.div_lt_iff_lt_mul (by omega)).2 (by rw[Nat.mul_comm];exact ha)
   ·rw[hp]at hb
    exact(Nat.div_lt_iff_lt_mul (by omega)).2 (by rw[Nat.mul_comm];exact hb)
  omega
theorem KG{x y:ItS}(hx:kM x)(hy:kM y)(rx:0<=x.1/\x.1<=12/\0<=x.2.1/\x.2.1<=20)(ry:0<=y.1/\y.1<=12/\0<=y.2.1/\y.2.1<=20)(h:vz x=vz y):x=y:=by
 obtain⟨x1,x2,x3⟩:=x
 obtain⟨y1,y2,y3⟩:=y
 unfold vz at h
 have e64:(2:Nat) ^ (8*8)=18446744073709551616:=by decide
 obtain⟨h1,h2⟩:=kU h (by simp)
 simp only[eQ,and_true]at h1
 obtain⟨_,a1,_,a2⟩:=h1
 have b1:eM x1 0=x1:=by unfold eM;simp only[lg,lh,li];simp only at rx;omega
 have b2:eM y1 0=y1:=by unfold eM;simp only[lg,lh,li];simp only at ry;omega
 have b3:eM x2 0=x2:=by unfold eM;simp only[lg,lh,li];simp only at rx;omega
 have b4:eM y2 0=y2:=by unfold eM;simp only[lg,lh,li];simp only at ry;omega
 simp only at a1 a2 h2
 rw[b1,b2]at a1
 rw[b3,b4]at a2
 have hk:∀ i,i<8->x3.toNat / 2 ^ (8*i) % 256=y3.toNat / 2 ^ (8*i) % 256:=λi hi=>by
  have:=congrArg (λl=>l[i]?) h2
  simp only[bS,dS hi,dA,bh]at this
  unfold eM at this
  omega
 unfold kM at hx hy
 simp only at hx hy
 have:=G5 (a:=x3.toNat) (b:=y3.toNat) (n:=8) hk (by rw[e64];omega) (by rw[e64];omega)
 rw[a1,a2,show x3=y3 by omega]
theorem nJ:∀ {l m:List ItS},OkI l->OkI m->dj l=dj m->l=m
 |[],[],_,_,_=>rfl
 |[],y::m,_,_,h=>by
  have:=congrArg List.length h
  simp only[dj,kT,q8,ak,nP,bH]at this
  omega
 |x::l,[],_,_,h=>by
  have:=congrArg List.length h
  simp only[dj,kT,q8,ak,nP,bH]at this
  omega
 |x::l,y::m,hl,hm,h=>by
  have h:vz x++dj l=vz y++dj m:=by simpa [dj]using h
  obtain⟨h1,h2⟩:=kU h (by rw[nP,nP])
  have e:=KG (hl.bd x bx) (hm.bd y bx) (hl.rg x bx) (hm.rg y bx) h1
  have:=nJ (l:=l) (m:=m) ⟨λz hz=>hl.bd z (bE _ hz),λz hz=>hl.rg z (bE _ hz)⟩ ⟨λz hz=>hm.bd z (bE _ hz),λz hz=>hm.rg z (bE _ hz)⟩ h2
  rw[e,this]
theorem G6(l:List ItS){j:Nat}(h:j<l.length):dj (l.take (j+1))=dj (l.take j)++vz l[j]:=by
 unfold dj
 rw[cZ _ _ h,iy]
 simp
theorem lL(l:List ItS):(dj l).length=l.length*12:=by
 induction l with
 |nil=>rfl
 |cons x l ih=>
  show(vz x++dj l).length=_
  rw[ak,nP,ih,aO]
  omega
theorem qA{a:Int}(h:0<=a)(i:Nat):IntKind.wrap .u8 (Int.fdiv a (2 ^ (8*i)))=eM a i:=by
 obtain⟨A,rfl⟩:∃ A:Nat,a=(A:Int):=⟨a.toNat,by omega⟩
 have e:((2:Int) ^ (8*i))=((2 ^ (8*i):Nat):Int):=by simp
 rw[e,nR _ (aQ _),<-Int.natCast_ediv,wrap_u8 (aQ _)]
 unfold eM
 rw[ae]
 omega
set_option maxHeartbeats 1000000 in
theorem QU{l:List ItS}(hl:OkI l)(hll:l.length<=100000):p46 N0 (l,())=some ((dj l,()),()):=by
 unfold p46
 have hw:IntKind.wrap .i64 (12*(l.length:Int))=((12*l.length:Nat):Int):=by rw[bD (by omega) (by omega)];simp
 simp only[aJ]
 simp only[bO,decide_eq_true_eq,hw]
 rw[if_pos ⟨by omega,by omega⟩,if_pos (by omega)]
 refine bQ (λj=>((),(dj (l.take j),((j:Int),())))) (λ_=>some ((dj l,()),())) l.length (λj hj K hK=>?_) N0 0 (aH _) (by unfold N0;omega)
 rcases ap j l.length with h|h
 ·have c:(j:Int)<(l.length:Int):=by omega
  have hK:=hK h
  have hj1:IntKind.wrap .i64 ((j:Int)+1)=((j+1:Nat):Int):=cD h (by omega)
  have hkl:=lL (l.take j)
  rw[aL]at hkl
  rw[G6 l h]at hK
  have hx:=hl.bd _ (bo h)
  have hr:=hl.rg _ (bo h)
  simp only[c,if_true,aQ,ae,ah h,hj1]
  generalize l[j]=x at *
  generalize dj (l.take j)=out at *
  have hm8:Nat.min (Int.toNat 8) (IntKind.bits .i64)=8*1:=by decide
  have f1:IntKind.wrap .u8 x.1=eM x.1 0:=by
   rw[<-qA hr.1 0];simp
  have f2:IntKind.wrap .u8 x.2.1=eM x.2.1 0:=by
   rw[<-qA hr.2.2.1 0];simp
  simp only[show ¬(8:Int)<0 by omega,if_false,hm8,qA hr.1,qA hr.2.2.1,f1,f2,aO,bH]
  rw[if_pos (by omega),if_pos (by omega)]
  rw[<-hK]
  unfold vz
  have hol:(out++[eM x.1 1,eM x.1 0,eM x.2.1 1,eM x.2.1 0]).length=out.length+4:=by simp
  rw[<-aN]
  generalize out++[eM x.1 1,eM x.1 0,eM x.2.1 1,eM x.2.1 0]=o2 at *
  refine bQ (λi=>((),(Bz o2 ((List.range i).map (eM x.2.2)),((i:Int),())))) (λ_=>K ((),(o2++(List.range 8).map (eM x.2.2),(((j+1:Nat):Int),())))) 8 (λi hi L hL=>?_) N0 0 (aH _) (by unfold N0;omega)
  simp only[oT]at hL |-
  rcases ap i 8 with hi8|hi8
  ·have ci:(i:Int)<8:=by omega
   have hL:=hL hi8
   have hi1:IntKind.wrap .i64 ((i:Int)+1)=((i+1:Nat):Int):=cD (by omega:i<1000) (by omega)
   have g1:IntKind.wrap .u64 (IntKind.wrap .i64 (8*(i:Int)))=((8*i:Nat):Int):=by
    rw[bD (by omega) (by omega),wrap_u64 ⟨by omega,by omega⟩];simp
   have g2:Nat.min (8*i) (IntKind.bits .u64)=8*i:=dr (by show 8*i<=64;omega)
   simp only[ci,if_true,g1,show ¬((8*i:Nat):Int)<0 by omega,if_false,ae,g2,qA hx.1,hi1,ak,bN,kS,aO,bH]
   rw[if_pos (by omega),if_pos (by omega)]
   rw[kV,eD,<-aN]at hL
   exact hL
  ·have ci:¬(i:Int)<8:=by omega
   have e:i=8:=by omega
   subst e
   simp only[ci,if_false]
 ·have c:¬(j:Int)<(l.length:Int):=by omega
  simp only[c,if_false]
  rw[bR h]
def dF(l:List ItS):List (List ItS)->Nat
 |[]=>0
 |x::r=>if x=l then 0 else dF l r+1
theorem EX(l:List ItS):∀ r,dF l r<=r.length
 |[]=>aq _
 |x::r=>by
  have:=EX l r
  unfold dF
  split
  ·omega
  ·rw[aO];omega
theorem qB{l:List ItS}:∀ {r:List (List ItS)},dF l r<r.length↔l∈r
 |[]=>by simp[dF]
 |x::r=>by
  have:=qB (l:=l) (r:=r)
  unfold dF
  split
  ·rename_i e;subst e;simp
  ·rename_i e
   have e':¬l=x:=λh=>e h.symm
   rw[aO,az]
   simp only[e',false_or,<-this]
   omega
theorem vA{l:List ItS}:∀ {r:List (List ItS)} (h:dF l r<r.length),r[dF l r]=l
 |[],h=>by simp at h
 |x::r,h=>by
  have:=vA (l:=l) (r:=r)
  unfold dF at h
  by_cases e:x=l
  ·have h0:dF l (x::r)=0:=by unfold dF;rw[if_pos e]
   simp only[h0,List.getElem_cons_zero];exact e
  ·have h0:dF l (x::r)=dF l r+1:=by rw[dF,if_neg e]
   rw[if_neg e]at h
   simp only[h0,List.getElem_cons_succ]
   exact this (by rw[aO]at h;omega)
theorem yP{l:List ItS}:∀ {r:List (List ItS)},¬l∈r->dF l r=r.length
 |[],_=>rfl
 |x::r,h=>by
  have h1:¬x=l:=λe=>h (by rw[e];exact bx)
  rw[dF,if_neg h1,yP (λhm=>h (bE _ hm)),aO]
theorem vB{l:List ItS}:∀ {r:List (List ItS)} (k:Nat) (h:k<r.length),k<dF l r->r[k]≠l
 |[],k,h,_=>by simp at h
 |x::r,k,h,hk=>by
  unfold dF at hk
  split at hk
  ·omega
  ·rename_i e
   cases k with
   |zero=>exact e
   |succ k=>exact vB k (by simpa using h) (by omega)
theorem BE{l:List ItS}:∀ {r s:List (List ItS)},l∈r->dF l (r++s)=dF l r
 |[],s,h=>by cases h
 |x::r,s,h=>by
  show dF l (x::(r++s))=_
  unfold dF
  split
  ·rfl
  ·rename_i e
   rw[BE (r:=r) (s:=s)]
   rcases az.1 h with h|h
   ·exact absurd h.symm e
   ·exact h
def jA(items:List (List ItS))(l:List ItS):List (List ItS):=if l∈items then items else items++[l]
abbrev KMs:=List (List Int×Int)
def eqL(a b:List Int):Bool:=decide (a=b)
theorem xj(k k':List Int)(v:Int):∀ x:KMs,fk eqL k (ff eqL k' v x)=(decide (k=k')||fk eqL k x)
 |[]=>by
  unfold ff fk eqL
  by_cases h:k=k'
  ·simp[h]
  ·simp[h,fk]
 |p::r=>by
  have ih:=xj k k' v r
  unfold ff
  by_cases h1:k'=p.1
  ·have e:eqL k' p.1=true:=by unfold eqL;simp[h1]
   rw[e,cond_true]
   unfold fk
   by_cases h:k=k'
   ·simp[eqL,h]
   ·have:¬k=p.1:=λe=>h (e.trans h1.symm)
    simp[eqL,h,this]
  ·have e:eqL k' p.1=false:=by unfold eqL;simp[h1]
   rw[e,cond_false]
   unfold fk
   rw[ih]
   by_cases h:k=p.1
   ·simp[eqL,h]
   ·simp[eqL,h]
theorem xk(k k':List Int)(v:Int):∀ x:KMs,cW eqL k (ff eqL k' v x)=if k=k' then v else cW eqL k x
 |[]=>by
  unfold ff cW eqL
  by_cases h:k=k'
  ·simp[h]
  ·simp[h,cW]
 |p::r=>by
  have ih:=xk k k' v r
  unfold ff
  by_cases h1:k'=p.1
  ·have e:eqL k' p.1=true:=by unfold eqL;simp[h1]
   rw[e,cond_true]
   unfold cW
   by_cases h:k=k'
   ·simp[eqL,h]
   ·have:¬k=p.1:=λe=>h (e.trans h1.symm)
    simp[eqL,h,this]
  ·have e:eqL k' p.1=false:=by unfold eqL;simp[h1]
   rw[e,cond_false]
   unfold cW
   rw[ih]
   by_cases h:k=p.1
   ·have:¬k=k':=λe=>h1 (e.symm.trans h)
    simp[eqL,h,this]
    intro e;exact absurd e (λe=>h1 e.symm)
   ·simp[eqL,h]
structure qC(seen:KMs)(items:List (List ItS)):Prop where
 ok:∀ l∈items,OkI l
 has:∀ l,OkI l->(fk eqL (dj l) seen=true↔l∈items)
 get:∀ l∈items,cW eqL (dj l) seen=(dF l items:Int)
theorem G7:qC [] []:=⟨(λl h=>by cases h),(λl _=>⟨(λh=>by cases h),(λh=>by cases h)⟩),(λl h=>by cases h)⟩
theorem qC.put{seen:KMs}{items:List (List ItS)}(h:qC seen items){l:List ItS}(hl:OkI l)(hn:¬l∈items):qC (ff eqL (dj l) (items.length:Int) seen) (items++[l]):=by
 refine⟨λm hm=>?_,λm hm=>?_,λm hm=>?_⟩
 ·rcases av.1 hm with hm|hm
  ·exact h.ok m hm
  ·rw[aM.1 hm];exact hl
 ·rw[xj,aG,decide_eq_true_eq,h.has m hm,av,aM]
  constructor
  ·rintro(e|e)
   ·exact .inr (nJ hm hl e)
   ·exact .inl e
  ·rintro(e|e)
   ·exact .inr e
   ·exact .inl (by rw[e])
 ·rw[xk]
  rcases av.1 hm with hm|hm
  ·have:¬dj m=dj l:=λe=>hn (by rw[<-nJ (h.ok m hm) hl e];exact hm)
   rw[if_neg this,h.get m hm,BE hm]
  ·rw[aM.1 hm,if_pos rfl]
   have key:∀ (r:List (List ItS)),¬l∈r->dF l (r++[l])=r.length:=by
    intro r
    induction r with
    |nil=>intro _;simp[dF]
    |cons x r ih=>
     intro hx
     have h1:¬x=l:=λe=>hx (by rw[e];exact bx)
     show dF l (x::(r++[l]))=_
     rw[dF,if_neg h1,ih (λhm=>hx (bE _ hm)),aO]
   rw[key items hn]
theorem KH{seen:KMs}{items:List (List ItS)}(h:qC seen items)(hil:items.length<=100000){l:List ItS}(hl:OkI l)(hll:l.length<=100000)(mv:List (List (SyS×Int))):
 ∃ OD,p45 N0 (l,(seen,((items,mv),())))=some ((((dF l items:Nat):Int),()),(OD,((jA items l,mv),())))/\qC OD (jA items l):=by
 have hb:∀ k x,fk (λv6 v7=>decide (v6=v7)) k x=fk eqL k (x:KMs):=λk x=>rfl
 unfold p45
 simp only[aJ,bO,QU hl hll,aC,aO,bH]
 by_cases hm:l∈items
 ·have hh:=(h.has l hl).2 hm
  refine⟨seen,?_,?_⟩
  ·have hg:cW (λv6 v7=>decide (v6=v7)) (dj l) seen=(dF l items:Int):=h.get l hm
   rw[if_neg (by rw[hb,hh];simp),hg]
   unfold jA
   rw[if_pos hm]
  ·unfold jA;rw[if_pos hm];exact h
 ·have hh:fk eqL (dj l) seen=false:=by
   cases hq:fk eqL (dj l) seen
   ·rfl
   ·exact absurd ((h.has l hl).1 hq) hm
  refine⟨ff eqL (dj l) (items.length:Int) seen,?_,?_⟩
  ·rw[if_pos (by rw[hb,hh];rfl),if_pos (by omega),if_pos (by omega),yP hm]
   unfold jA
   rw[if_neg hm]
   rfl
  ·unfold jA;rw[if_neg hm];exact h.put hl hm
end
noncomputable section
theorem EY{A R:Type}{body:A->(A->Option R)->Option R}(I:Nat->A->(Option R->Prop)->Prop)
 (step:∀ m x Q,I m x Q->∀ k,(∀ m' y Q',m' < m->I m' y Q'->Q' (k y))->Q (body x k)):∀ n m x Q,m<n->I m x Q->Q (aE body n x):=by
 intro n
 induction n with
 |zero=>intro m x Q h;omega
 |succ n ih=>
  intro m x Q h hi
  rw[eJ]
  exact step m x Q hi _ (λm' y Q' hm hi'=>ih m' y Q' (by omega) hi')
def tgt(g:GrS)(l:List ItS)(s:SyS):List ItS:=eK g (fN (goL g s l))
abbrev StB:=List (List ItS)×(List (List SyS)×List (List Int))
def dl(g:GrS)(l:List ItS)(items:List (List ItS)):Nat->List (List ItS)×List Int
 |0=>(items,[])
 |k+1=>match(bV g l)[k]? with
  |some s=>(jA (dl g l items k).1 (tgt g l s),(dl g l items k).2++[(dF (tgt g l s) (dl g l items k).1:Int)])
  |none=>dl g l items k
theorem sq(g:GrS)(l:List ItS)(items:List (List ItS)){k:Nat}(h:k<(bV g l).length):dl g l items (k+1)=
 (jA (dl g l items k).1 (tgt g l (bV g l)[k]),(dl g l items k).2++[(dF (tgt g l (bV g l)[k]) (dl g l items k).1:Int)]):=by
 rw[dl,ah h]
def gg(g:GrS)(i:Nat)(s:StB):StB:=match s.1[i]? with
 |some l=>((dl g l s.1 (bV g l).length).1,(s.2.1++[bV g l],s.2.2++[(dl g l s.1 (bV g l).length).2]))
 |none=>s
def bfs(g:GrS):Nat->Nat->StB->Option StB
 |0,_,_=>none
 |m+1,i,s=>if s.1.length<=i then some s else if 60<s.1.length then none else bfs g m (i+1) (gg g i s)
theorem BF(items:List (List ItS))(l:List ItS):∃ e,jA items l=items++e/\e.length<=1:=by
 unfold jA
 split
 ·exact⟨[],by simp,by simp⟩
 ·exact⟨[l],rfl,by simp⟩
theorem KI(items:List (List ItS))(l:List ItS):(jA items l)[dF l items]?=some l:=by
 unfold jA
 split
 ·rename_i h
  have hlt:=qB.2 h
  rw[ah hlt,vA hlt]
 ·rename_i h
  rw[yP h,fo (aq _)]
  simp
theorem nQ(g:GrS)(l:List ItS)(items:List (List ItS)):∀ k,∃ e,(dl g l items k).1=items++e/\e.length<=k
 |0=>⟨[],by simp[dl],by simp⟩
 |k+1=>by
  obtain⟨e,h1,h2⟩:=nQ g l items k
  unfold dl
  split
  ·rename_i s hs
   obtain⟨e',h3,h4⟩:=BF (dl g l items k).1 (tgt g l s)
   refine⟨e++e',?_,?_⟩
   ·show jA (dl g l items k).1 _=_
    rw[h3,h1,aN]
   ·rw[ak];omega
  ·exact⟨e,h1,by omega⟩
theorem tC(g:GrS)(l:List ItS)(items:List (List ItS)):∀ k,k<=(bV g l).length->(dl g l items k).2.length=k/\∀ j s,j<k->(bV g l)[j]?=some s->∃ t:Nat,(dl g l items k).2[j]?=some (t:Int)/\(dl g l items k).1[t]?=some (tgt g l s)
 |0,_=>⟨rfl,λj s h=>by omega⟩
 |k+1,hk=>by
  obtain⟨h1,h2⟩:=tC g l items k (by omega)
  have hkl:k<(bV g l).length:=by omega
  rw[sq g l items hkl]
  refine⟨by simp[h1],λj s hj hs=>?_⟩
  obtain⟨e,h3,_⟩:=BF (dl g l items k).1 (tgt g l (bV g l)[k])
  by_cases hjk:j=k
  ·subst hjk
   rw[ah hkl]at hs
   cases hs
   refine⟨_,?_,KI _ _⟩
   rw[fo (by omega),h1]
   simp
  ·obtain⟨t,h4,h5⟩:=h2 j s (by omega) hs
   refine⟨t,?_,?_⟩
   ·rw[dR (by omega)];exact h4
   ·show(jA (dl g l items k).1 _)[t]?=_
    rw[h3,dR (bm.1 h5).1];exact h5
def OkL(items:List (List ItS)):Prop:=∀ l∈items,OkI l/\l.length<=273
theorem yQ{g:GrS}(hg:Gs g){l:List ItS}(h:OkI l)(s:SyS):OkI (tgt g l s)/\(tgt g l s).length<=273:=by
 have h1:=qz (pC hg s h)
 exact⟨oS hg h1,lP (fg hg h1) λ_ _ _ ha=>ClG.inU hg h1 ha⟩
theorem yR{g:GrS}(hg:Gs g){l:List ItS}(hl:l.length<=273)(s:SyS):(fN (goL g s l)).length<=273:=by
 have h1:=Bt (goL g s l)
 have h2:=oU g s l
 omega
theorem yS{g:GrS}(hg:Gs g){l:List ItS}(hl:OkI l){items:List (List ItS)}(h:OkL items):∀ k,OkL (dl g l items k).1
 |0=>h
 |k+1=>by
  have ih:=yS hg hl h k
  unfold dl
  split
  ·rename_i s _
   intro m hm
   change m∈jA (dl g l items k).1 (tgt g l s)at hm
   unfold jA at hm
   split at hm
   ·exact ih m hm
   ·rcases av.1 hm with hm|hm
    ·exact ih m hm
    ·rw[aM.1 hm];exact yQ hg hl s
  ·exact ih
structure OkB(g:GrS)(i:Nat)(s:StB):Prop where
 it:OkL s.1
 l1:s.2.1.length=i
 l2:s.2.2.length=i
 le:i<=s.1.length
 mx:s.1.length<=400
 row:∀ j,j<i->∃ l,s.1[j]?=some l/\s.2.1[j]?=some (bV g l)/\∃ to,s.2.2[j]?=some to/\to.length=(bV g l).length/\∀ (k:Nat) (y:SyS),(bV g l)[k]?=some y->∃ t:Nat,to[k]?=some (t:Int)/\s.1[t]?=some (tgt g l y)
theorem OkB.step{g:GrS}(hg:Gs g){i:Nat}{s:StB}(h:OkB g i s)(hi:i<s.1.length)(h60:s.1.length<=60):OkB g (i+1) (gg g i s):=by
 have hs:gg g i s=((dl g s.1[i] s.1 (bV g s.1[i]).length).1,(s.2.1++[bV g s.1[i]],s.2.2++[(dl g s.1[i] s.1 (bV g s.1[i]).length).2])):=by
  unfold gg;rw[ah hi]
 have hl:=h.it _ (bo hi)
 obtain⟨e,he,hel⟩:=nQ g s.1[i] s.1 (bV g s.1[i]).length
 have hsl:=lQ g s.1[i]
 have hto:=tC g s.1[i] s.1 (bV g s.1[i]).length (aq _)
 rw[hs]
 have vN:∀ (t:Nat) m,s.1[t]?=some m->(dl g s.1[i] s.1 (bV g s.1[i]).length).1[t]?=some m:=λt m hm=>by
  rw[he,dR (bm.1 hm).1];exact hm
 refine⟨yS hg hl.1 h.it _,by simp[h.l1],by simp[h.l2],?_,?_,λj hj=>?_⟩
 ·show i+1<=(dl g s.1[i] s.1 (bV g s.1[i]).length).1.length
  rw[he,ak];omega
 ·show(dl g s.1[i] s.1 (bV g s.1[i]).length).1.length<=400
  rw[he,ak];omega
 ·by_cases e':j=i
  ·subst e'
   refine⟨s.1[j],vN _ _ (ah hi),?_,(dl g s.1[j] s.1 (bV g s.1[j]).length).2,?_,hto.1,λk y hy=>hto.2 k y (bm.1 hy).1 hy⟩
   ·show(s.2.1++[bV g s.1[j]])[j]?=_
    rw[fo (by rw[h.l1];exact aq _),h.l1];simp
   ·show(s.2.2++[_])[j]?=_
    rw[fo (by rw[h.l2];exact aq _),h.l2];simp
  ·obtain⟨l,r1,r2,to,r3,r4,r5⟩:=h.row j (by omega)
   refine⟨l,vN _ _ r1,?_,to,?_,r4,λk y hy=>?_⟩
   ·show(s.2.1++[_])[j]?=_
    rw[dR (by rw[h.l1];omega)];exact r2
   ·show(s.2.2++[_])[j]?=_
    rw[dR (by rw[h.l2];omega)];exact r3
   ·obtain⟨t,r6,r7⟩:=r5 k y hy
    exact⟨t,r6,vN _ _ r7⟩
def st0(g:GrS):StB:=([eK g (jo g)],([],[]))
theorem vC{g:GrS}(hg:Gs g):OkB g 0 (st0 g):=by
 have h1:=jO hg
 refine⟨λl hl=>?_,rfl,rfl,aH _,by simp[st0],λj hj=>by omega⟩
 rw[aM.1 hl]
 exact⟨oS hg h1,lP (fg hg h1) λ_ _ _ ha=>ClG.inU hg h1 ha⟩
theorem yT{g:GrS}(hg:Gs g):∀ (m i:Nat) (s s':StB),OkB g i s->bfs g m i s=some s'->OkB g s'.1.length s'/\∃ e,s'.1=s.1++e
 |0,i,s,s',_,h=>by cases h
 |m+1,i,s,s',hs,h=>by
  rw[bfs]at h
  split at h
  ·rename_i hle
   cases h
   have:=hs.le
   have e:s.1.length=i:=by omega
   rw[e]
   exact⟨hs,[],by simp⟩
  ·rename_i hle
   split at h
   ·cases h
   ·rename_i h60
    obtain⟨r1,e2,r2⟩:=yT hg m (i+1) (gg g i s) s' (hs.step hg (by omega) (by omega)) h
    refine⟨r1,?_⟩
    have hi:i<s.1.length:=by omega
    have hst:(gg g i s).1=(dl g s.1[i] s.1 (bV g s.1[i]).length).1:=by unfold gg;rw[ah hi]
    obtain⟨e,he,_⟩:=nQ g s.1[i] s.1 (bV g s.1[i]).length
    exact⟨e++e2,by rw[r2,hst,he,aN]⟩
set_option maxHeartbeats 4000000 in
theorem NX{g:GrS}(hg:Gs g):∃ out ok,p43 N0 (g,(60,()))=some ((out,(ok,())),())/\(ok=true->bfs g 62 0 (st0 g)=some out):=by
 have h0:=jO hg
 unfold p43
 simp only[aJ]
 simp only[bO,decide_eq_true_eq]
 rw[aa (KC g)]
 simp only
 rw[aa (yI hg h0 (by simp[jo]))]
 simp only
 refine EY (λm z Q=>∃ (i:Nat) (s:StB),z=((([],([],[])),(s,())),((i:Int),()))/\OkB g i s/\i+m=62/\i<=61/\Q=λr=>∃ out ok,r=some ((out,(ok,())),())/\(ok=true->bfs g m i s=some out)) ?_ N0 62 _ _ (by unfold N0;omega) ⟨0,st0 g,rfl,vC hg,rfl,by omega,rfl⟩
 rintro m z Q ⟨i,s,rfl,hs,him,VX,rfl⟩ K hK
 obtain⟨m,rfl⟩:∃ m',m=m' + 1:=⟨m-1,by omega⟩
 have hmx:=hs.mx
 rcases ap i s.1.length with hi|hi
 case inr=>
  have c:¬(i:Int)<(s.1.length:Int):=by omega
  simp only[c,if_false]
  exact⟨s,true,rfl,λ_=>by rw[bfs,if_pos hi]⟩
 have c:(i:Int)<(s.1.length:Int):=by omega
 simp only[c,if_true]
 by_cases h60:60<s.1.length
 ·have c2:(60:Int)<(s.1.length:Int):=by omega
  rw[if_pos c2]
  exact⟨s,false,rfl,λh=>by cases h⟩
 have c2:¬(60:Int)<(s.1.length:Int):=by omega
 rw[if_neg c2]
 have hi1:IntKind.wrap .i64 ((i:Int)+1)=((i+1:Nat):Int):=cD hi (by omega)
 have hl:=hs.it _ (bo hi)
 have hst:gg g i s=((dl g s.1[i] s.1 (bV g s.1[i]).length).1,(s.2.1++[bV g s.1[i]],s.2.2++[(dl g s.1[i] s.1 (bV g s.1[i]).length).2])):=by
  unfold gg;rw[ah hi]
 have SJ:bfs g (m+1) i s=bfs g m (i+1) (gg g i s):=by rw[bfs,if_neg (by omega),if_neg h60]
 have wP:=hK m ((([],([],[])),(gg g i s,())),(((i+1:Nat):Int),())) (λr=>∃ out ok,r=some ((out,(ok,())),())/\(ok=true->bfs g m (i+1) (gg g i s)=some out)) (by omega) ⟨i+1,gg g i s,rfl,hs.step hg hi (by omega),by omega,by omega,rfl⟩
 simp only[SJ]
 rw[hst]at wP |-
 have BG:s.1[i]?=some s.1[i]:=ah hi
 have hl1:=hs.l1
 have hl2:=hs.l2
 have KJ:=hs.it
 clear hK SJ hs
 simp only[aQ,if_true,ae,BG,hi1]
 generalize s.1[i]=l at *
 rw[aa (QT g (by omega:l.length<=100000))]
 simp only
 have hsl:=lQ g l
 obtain⟨out,ok,hn1,hn2⟩:=wP
 refine⟨out,ok,Eq.trans ?_ hn1,hn2⟩
 refine bQ (λk=>((([],([],[])),(((dl g l s.1 k).1,(s.2.1,s.2.2)),())),((dl g l s.1 k).2,((k:Int),())))) (λ_=>K ((([],([],[])),(((dl g l s.1 (bV g l).length).1,(s.2.1++[bV g l],s.2.2++[(dl g l s.1 (bV g l).length).2])),())),(((i+1:Nat):Int),()))) (bV g l).length (λk hk L hL=>?_) N0 0 (aH _) (by unfold N0;omega)
 have hto:=tC g l s.1 k hk
 rcases ap k (bV g l).length with hkl|hkl
 ·have ck:(k:Int)<((bV g l).length:Int):=by omega
  have hL:=hL hkl
  have hk1:IntKind.wrap .i64 ((k:Int)+1)=((k+1:Nat):Int):=cD hkl (by omega)
  obtain⟨e,he,hel⟩:=nQ g l s.1 k
  have hgi:(dl g l s.1 k).1[i]?=some l:=by rw[he,dR hi];exact BG
  have hrl:(dl g l s.1 k).1.length<=1000:=by rw[he,ak];omega
  rw[sq g l s.1 hkl]at hL
  simp only[ck,if_true,aQ,ae,hgi,ah hkl]
  generalize (bV g l)[k]=y at *
  rw[aa (KD hg y hl.1 (by omega))]
  simp only
  rw[aa (yI hg (qz (pC hg y hl.1)) (by have:=yR hg hl.2 y;omega))]
  simp only
  have htl:=(yQ hg hl.1 y).2
  have hro:=yS hg hl.1 KJ k
  have hT:eK g (fN (goL g y l))=tgt g l y:=rfl
  rw[hT]
  have VY:=hto.1
  generalize tgt g l y=T at *
  generalize (dl g l s.1 k).1=R at *
  generalize (dl g l s.1 k).2=TO at *
  have hfl:=EX T R
  refine bQ (λn=>((([],([],[])),((R,(s.2.1,s.2.2)),(TO,()))),((if dF T R<n then(dF T R:Int)else -1),((n:Int),())))) (λ_=>K ((([],([],[])),(((dl g l s.1 (bV g l).length).1,(s.2.1++[bV g l],s.2.2++[(dl g l s.1 (bV g l).length).2])),())),(((i+1:Nat):Int),()))) (if dF T R<R.length then dF T R+1 else R.length) (λj hj M hM=>?_) N0 0 (aH _) (by split <;> (unfold N0;omega))
  rcases ap j (if dF T R<R.length then dF T R+1 else R.length)with hjl|hjl
  ·have hM:=hM hjl
   have hjR:j<R.length:=by
    split at hjl <;> omega
   have hjf:¬dF T R<j:=by
    split at hjl <;> omega
   have cj:(j:Int)<(R.length:Int):=by omega
   have hj1:IntKind.wrap .i64 ((j:Int)+1)=((j+1:Nat):Int):=cD hjR (by omega)
   have hRj:=(hro _ (bo hjR)).2
   simp only[cj,if_true,hjf,if_false,show(-1:Int)<0 by omega,decide_true,aQ,ae,ah hjR,hj1]
   rw[aa (Ku (by omega:R[j].length<=1000000))]
   simp only[decide_eq_true_eq]
   rw[<-hM]
   by_cases he:R[j]=T
   ·have hf:dF T R=j:=by
     rcases ap j (dF T R)with h|h
     ·exact absurd he (vB j hjR h)
     ·omega
    rw[if_pos he,if_pos (by omega),hf]
   ·have hf:¬dF T R<j+1:=λh=>by
     have e2:dF T R=j:=by omega
     have:=vA (l:=T) (r:=R) (by omega)
     simp only[e2]at this
     exact he this
    rw[if_neg he,if_neg hf]
  ·have hje:j=(if dF T R<R.length then dF T R+1 else R.length):=by omega
   by_cases hin:dF T R<R.length
   ·rw[if_pos hin]at hje
    have lA:=qB.1 hin
    have B8:jA R T=R:=by unfold jA;rw[if_pos lA]
    rw[B8]at hL
    have hf:dF T R<j:=by omega
    have CX:¬((dF T R:Nat):Int)<0:=by omega
    simp only[hf,if_true,CX,decide_false,au,if_false,aO,bH,hk1]
    have ye:(if(TO.length+(0+1))*8<=140737488355328 then(if TO.length+(0+1)<=9223372036854775807 then L ((([],([],[])),((R,(s.2.1,s.2.2)),())),(TO++[((dF T R:Nat):Int)],(((k+1:Nat):Int),())))else none)else none)=K ((([],([],[])),(((dl g l s.1 (bV g l).length).1,(s.2.1++[bV g l],s.2.2++[(dl g l s.1 (bV g l).length).2])),())),(((i+1:Nat):Int),())):=by
     rw[if_pos (by omega),if_pos (by omega)];exact hL
    split
    ·exact ye
    ·exact ye
   ·rw[if_neg hin]at hje
    have hfe:dF T R=R.length:=by omega
    have lA:¬T∈R:=λh=>hin (qB.2 h)
    have B8:jA R T=R++[T]:=by unfold jA;rw[if_neg lA]
    rw[B8,hfe]at hL
    have hf:¬dF T R<j:=by omega
    have cj:¬(j:Int)<(R.length:Int):=by omega
    simp only[cj,hf,if_false,au,show(-1:Int)<0 by omega,if_true,aO,bH,hk1]
    rw[if_pos (by omega),if_pos (by omega),if_pos (by omega),if_pos (by omega)]
    exact hL
 ·have ck:¬(k:Int)<((bV g l).length:Int):=by omega
  have e:k=(bV g l).length:=by omega
  subst e
  simp only[ck,if_false,aO,bH]
  rw[if_pos (by omega),if_pos (by omega),if_pos (by omega),if_pos (by omega)]
end
noncomputable section
def mvR(KK:List (List SyS))(tos:List (List Int)):List (List (SyS×Int)):=List.zipWith (λa b=>a.zip b) KK tos
theorem KL{KK:List (List SyS)}{tos:List (List Int)}(h:KK.length=tos.length)(a:List SyS)(b:List Int):mvR (KK++[a]) (tos++[b])=mvR KK tos++[a.zip b]:=by
 unfold mvR
 rw[List.zipWith_append h]
 rfl
theorem KN{a:List SyS}{b:List Int}(h:a.length=b.length)(x:SyS)(y:Int):(a++[x]).zip (b++[y])=a.zip b++[(x,y)]:=by
 rw[List.zip_append h]
 rfl
theorem vD{g:GrS}(hg:Gs g){l:List ItS}(h:OkI l):(eK g l).length<=273:=lP (fg hg h) λ_ _ _ ha=>ClG.inU hg h ha
set_option maxHeartbeats 4000000 in
theorem QV{g:GrS}(hg:Gs g){a b:Int}(h31:p31 N0 (g,())=some (((0,(a,b)),()),())){s':StB}(hb:bfs g 62 0 (st0 g)=some s'):
 p18 N0 (g,())=some (((s'.1,mvR s'.2.1 s'.2.2),(0,())),()):=by
 have h0:=jO hg
 have h0l:(jo g).length<=100000:=by simp[jo]
 unfold p18
 simp only
 rw[aa h31]
 simp only
 rw[decide_true,aB,cond_false,aa (QF hg)]
 simp only
 rw[aa (QO g)]
 simp only
 rw[aa (KB hg h0 h0l)]
 simp only
 obtain⟨SK,h45,KO⟩:=KH G7 (by simp) (oS hg h0) (by have:=vD hg h0;omega) []
 rw[aa h45]
 simp only[aJ]
 simp only[bO,decide_eq_true_eq]
 have SL:jA [] (eK g (jo g))=[eK g (jo g)]:=by unfold jA;rw[if_neg (by simp)];rfl
 rw[SL]at KO |-
 refine aZ (λm z r=>∃ (i:Nat) (s:StB) (seen:KMs),z=((([],[]),((s.1,mvR s.2.1 s.2.2),(seen,()))),((i:Int),()))/\OkB g i s/\qC seen s.1/\bfs g m i s=some s'/\r=some (((s'.1,mvR s'.2.1 s'.2.2),(0,())),())) ?_ N0 62 _ _ (by unfold N0;omega) ⟨0,st0 g,SK,rfl,vC hg,KO,hb,rfl⟩
 rintro m z r ⟨i,s,seen,rfl,hs,SM,hbf,rfl⟩ K hK
 cases m with
 |zero=>cases hbf
 |succ m=>
 have hmx:=hs.mx
 have hle:=hs.le
 rw[bfs]at hbf
 rcases ap i s.1.length with hi|hi
 case inr=>
  have c:¬(i:Int)<(s.1.length:Int):=by omega
  rw[if_pos hi]at hbf
  cases hbf
  simp only[c,if_false]
 rw[if_neg (by omega)]at hbf
 by_cases h60:60<s.1.length
 ·rw[if_pos h60]at hbf;cases hbf
 rw[if_neg h60]at hbf
 have c:(i:Int)<(s.1.length:Int):=by omega
 have c2:¬(2000:Int)<(s.1.length:Int):=by omega
 have hi1:IntKind.wrap .i64 ((i:Int)+1)=((i+1:Nat):Int):=cD hi (by omega)
 have hl:=hs.it _ (bo hi)
 have hst:gg g i s=((dl g s.1[i] s.1 (bV g s.1[i]).length).1,(s.2.1++[bV g s.1[i]],s.2.2++[(dl g s.1[i] s.1 (bV g s.1[i]).length).2])):=by
  unfold gg;rw[ah hi]
 have KP:=hs.step hg hi (by omega)
 have BG:s.1[i]?=some s.1[i]:=ah hi
 have hl1:=hs.l1
 have hl2:=hs.l2
 have KJ:=hs.it
 simp only[c,if_true,c2,if_false,aQ,ae,BG,hi1]
 have hK2:∀ vE,qC vE (gg g i s).1->K ((([],[]),(((gg g i s).1,mvR (gg g i s).2.1 (gg g i s).2.2),(vE,()))),(((i+1:Nat):Int),()))=some (((s'.1,mvR s'.2.1 s'.2.2),(0,())),()):=λvE h2=>
  hK m _ _ (by omega) ⟨i+1,gg g i s,vE,rfl,KP,h2,hbf,rfl⟩
 rw[hst,KL (by rw[hl1,hl2])]at hK2
 clear hK KP hbf hst
 generalize s.1[i]=l at *
 rw[aa (QS g (by omega:l.length<=100000))]
 simp only
 have hsl:=lQ g l
 refine aZ (λm z r=>∃ (k:Nat) (seen:KMs),z=((([],[]),(((dl g l s.1 k).1,mvR s.2.1 s.2.2),(seen,()))),((((bV g l).take k).zip (dl g l s.1 k).2),((k:Int),())))/\k<=(bV g l).length/\qC seen (dl g l s.1 k).1/\m=(bV g l).length-k/\r=some (((s'.1,mvR s'.2.1 s'.2.2),(0,())),())) ?_ N0 (bV g l).length _ _ (by unfold N0;omega) ⟨0,seen,rfl,aH _,SM,rfl,rfl⟩
 rintro m z r ⟨k,vE,rfl,hk,hse,rfl,rfl⟩ L hL
 have hto:=tC g l s.1 k hk
 have VZ:=hto.1
 rcases ap k (bV g l).length with hkl|hkl
 ·have ck:(k:Int)<((bV g l).length:Int):=by omega
  have hk1:IntKind.wrap .i64 ((k:Int)+1)=((k+1:Nat):Int):=cD hkl (by omega)
  obtain⟨e,he,hel⟩:=nQ g l s.1 k
  have hgi:(dl g l s.1 k).1[i]?=some l:=by rw[he,dR hi];exact BG
  have hrl:(dl g l s.1 k).1.length<=1000:=by rw[he,ak];omega
  have hzl:(((bV g l).take k).zip (dl g l s.1 k).2).length<=1000:=by rw[rj,aL];omega
  have hL2:=hL ((bV g l).length-(k+1))
  have hrs:=sq g l s.1 hkl
  have hzs:((bV g l).take (k+1)).zip (dl g l s.1 (k+1)).2=((bV g l).take k).zip (dl g l s.1 k).2++[((bV g l)[k],(dF (tgt g l (bV g l)[k]) (dl g l s.1 k).1:Int))]:=by
   rw[hrs,cZ _ _ hkl]
   exact KN (by rw[aL];omega) _ _
  simp only[ck,if_true,aQ,ae,hgi,ah hkl,hk1,aO,bH]
  have hy1:=qz (pC hg (bV g l)[k] hl.1)
  have hy2:=yR hg hl.2 (bV g l)[k]
  rw[aa (QP hg (bV g l)[k] hl.1 (by omega))]
  simp only
  rw[aa (KB hg hy1 (by omega))]
  simp only
  have htg:=yQ hg hl.1 (bV g l)[k]
  obtain⟨SN,e45,Vy⟩:=KH hse (by omega) htg.1 (by omega) (mvR s.2.1 s.2.2)
  have Vz:p45 N0 (eK g (fN (goL g (bV g l)[k] l)),(vE,(((dl g l s.1 k).1,mvR s.2.1 s.2.2),())))=_:=e45
  rw[aa Vz]
  simp only
  rw[if_pos (by omega),if_pos (by omega)]
  refine hL2 _ _ (by omega) ⟨k+1,SN,?_,by omega,?_,rfl,rfl⟩
  ·rw[hzs,hrs]
  ·rw[hrs];exact Vy
 ·have ck:¬(k:Int)<((bV g l).length:Int):=by omega
  have e:k=(bV g l).length:=by omega
  subst e
  have hml:(mvR s.2.1 s.2.2).length<=1000:=by unfold mvR;rw[List.length_zipWith];omega
  rw[cK]
  simp only[ck,if_false,aO,bH]
  rw[if_pos (by omega),if_pos (by omega)]
  exact hK2 vE hse
end
noncomputable section
theorem SO{g:Grm}(h:WfT y26 g):GOk g:=by
 obtain⟨⟨h1,h1'⟩,⟨h2,h2'⟩,⟨h3,h3'⟩,⟨h4,h4'⟩,h5⟩:=h
 exact⟨h4,λl hl=>(h4' l hl).2.1,h3,λp hp=>(h3' p hp).2.2.1.1,h1,h2⟩
theorem SP{g:Grm}(h:WfT y26 g)(hf:few g=true):tf g:=by
 obtain⟨⟨h1,h1'⟩,⟨h2,h2'⟩,⟨h3,h3'⟩,⟨h4,h4'⟩,h5⟩:=h
 unfold few xf at hf
 simp only[ag,decide_eq_true_eq,cR]at hf
 obtain⟨⟨f1,f2⟩,f3,f4,f5,f6,f7,f8⟩:=hf
 have p7:∀ p∈g.2.2.1,p.2.2.1.length<=20/\p.2.2.2.2.2.length<=20/\p.2.1.length<=100:=λp hp=>by
  have:=f7 p hp
  unfold uZ at this
  simpa using this
 refine⟨by omega,λr hr=>?_,by omega,λs hs=>⟨(h2' s hs).2,(h2' s hs).1⟩,by omega,λp hp=>⟨(h3' p hp).2.1.2,(h3' p hp).2.1.1⟩,λp hp=>by have:=(p7 p hp).1;omega,λp hp=>by have:=(p7 p hp).2.1;omega,by omega,λl hl=>by have:=f8 l hl;omega⟩
 have:=h1' r hr
 exact⟨this.1.2,this.1.1,this.2.2.2,this.2.2.1⟩
theorem VA{g:Grm}(h:WfT y26 g)(hf:few g=true)(h12:g.2.2.1.length<=12):Gs g:=by
 obtain⟨⟨h1,h1'⟩,⟨h2,h2'⟩,⟨h3,h3'⟩,⟨h4,h4'⟩,h5⟩:=h
 unfold few xf at hf
 simp only[ag,decide_eq_true_eq,cR]at hf
 obtain⟨⟨f1,f2⟩,f3,f4,f5,f6,f7,f8⟩:=hf
 refine⟨f3,h12,λp hp=>?_,λp hp y hy=>?_,h5⟩
 ·have:=f7 p hp
  unfold uZ at this
  simp at this
  omega
 ·exact((h3' p hp).2.2.1.2 y hy).2
theorem NY{g:Grm}(h:WfT y26 g):∃ b,p42 N0 (g,())=some ((b,()),())/\(b=true->few g=true/\g.2.2.1.length<=12/\(∀ r∈g.1,r.2.2.length<=12)/\(ig g).1=0):=by
 have hgk:=SO h
 have hrs:=hgk.rs
 unfold p42
 simp only[aJ]
 simp only[bO,decide_eq_true_eq]
 rw[aa (Sv g hgk)]
 simp only
 cases hf:few g
 ·exact⟨false,rfl,λh=>by cases h⟩
 simp only[aB,au,if_false,decide_eq_true_eq]
 by_cases hp:(12:Int)<(g.2.2.1.length:Int)
 ·rw[if_pos hp]
  exact⟨false,rfl,λh=>by cases h⟩
 rw[if_neg hp]
 have ok:=SP h hf
 refine EY (λm z Q=>∃ j:Nat,z=((),((j:Int),()))/\j<=g.1.length/\m=g.1.length-j/\(∀ k (h:k<g.1.length),k<j->g.1[k].2.2.length<=12)/\Q=λr=>∃ b,r=some ((b,()),())/\(b=true->True/\g.2.2.1.length<=12/\(∀ r∈g.1,r.2.2.length<=12)/\(ig g).1=0)) ?_ N0 g.1.length _ _ (by have:=j7 hrs;omega) ⟨0,rfl,aH _,rfl,λk _ h=>by omega,rfl⟩
 rintro m z Q ⟨j,rfl,hj,rfl,fW,rfl⟩ K hK
 rcases ap j g.1.length with hjl|hjl
 ·have cj:(j:Int)<(g.1.length:Int):=by omega
  simp only[cj,if_true,aQ,ae,ah hjl,br hjl hrs]
  by_cases hr:(12:Int)<(g.1[j].2.2.length:Int)
  ·rw[if_pos hr]
   exact⟨false,rfl,λh=>by cases h⟩
  ·rw[if_neg hr]
   refine hK (g.1.length-(j+1)) _ _ (by omega) ⟨j+1,rfl,hjl,rfl,λk hk hkj=>?_,rfl⟩
   by_cases e:k=j
   ·subst e;omega
   ·exact fW k hk (by omega)
 ·have cj:¬(j:Int)<(g.1.length:Int):=by omega
  simp only[cj,if_false]
  rw[aa (JV ok)]
  simp only
  refine⟨_,rfl,λhb=>⟨trivial,by omega,λr hr=>?_,by simpa using hb⟩⟩
  obtain⟨k,hk,rfl⟩:=fu.1 hr
  exact fW k hk (by omega)
structure Trd(g:Grm)(w:StB):Prop where
 gs:Gs g
 ok:tf g
 r12:∀ r∈g.1,r.2.2.length<=12
 e0:(ig g).1=0
 bf:bfs g 62 0 (st0 g)=some w
theorem NZ{g:Grm}(h:WfT y26 g):∃ w b,p17 N0 (g,())=some ((w,(b,())),())/\(b=true->Trd g w):=by
 obtain⟨b,h1,h2⟩:=NY h
 unfold p17
 simp only
 rw[aa h1]
 simp only
 cases b
 ·exact⟨_,false,rfl,λh=>by cases h⟩
 ·obtain⟨f1,f2,f3,f4⟩:=h2 rfl
  have hg:=VA h f1 f2
  obtain⟨out,ok,e1,e2⟩:=NX hg
  rw[aB,cond_false,aa e1]
  exact⟨out,ok,rfl,λhb=>⟨hg,SP h f1,f3,f4,e2 hb⟩⟩
theorem Trd.p31{g:Grm}{w:StB}(t:Trd g w):∃ a b,p31 N0 (g,())=some (((0,(a,b)),()),()):=by
 have:=JU t.ok t.r12
 rw[show ig g=((ig g).1,((ig g).2.1,(ig g).2.2))from rfl,t.e0]at this
 exact⟨_,_,this⟩
theorem Trd.p18{g:Grm}{w:StB}(t:Trd g w):p18 N0 (g,())=some (((w.1,mvR w.2.1 w.2.2),(0,())),()):=by
 obtain⟨a,b,h⟩:=t.p31
 exact QV t.gs h t.bf
theorem Trd.okB{g:Grm}{w:StB}(t:Trd g w):OkB g w.1.length w:=(yT t.gs _ _ _ _ (vC t.gs) t.bf).1
theorem N2{g:Grm}{w:StB}(hk:OkB g w.1.length w):(mvR w.2.1 w.2.2).length=w.1.length:=by
 unfold mvR;rw[List.length_zipWith,hk.l1,hk.l2,Nat.min_self]
theorem N3{g:Grm}{w:StB}(hk:OkB g w.1.length w){i:Nat}(hi:i<w.1.length):∃ (l:List ItS) (sy:List SyS) (to:List Int),w.1[i]?=some l/\w.2.1[i]?=some sy/\w.2.2[i]?=some to/\(mvR w.2.1 w.2.2)[i]?=some (sy.zip to)/\to.length=sy.length/\sy=bV g l/\l.length<=273:=by
 obtain⟨l,r1,r2,to,r3,r4,_⟩:=hk.row i hi
 refine⟨l,_,to,r1,r2,r3,?_,r4,rfl,(hk.it l (cJ r1)).2⟩
 unfold mvR
 rw[List.getElem?_zipWith,r2,r3]
theorem N4{sy:List SyS}{to:List Int}(h:to.length=sy.length){k:Nat}(hk:k<sy.length):(sy.zip to)[k]?=some (sy[k],to[k]):=by
 rw[ah (by rw[rj];omega),List.getElem_zip]
end
noncomputable section
def oZ(x:SyS):List SyS->Nat
 |[]=>0
 |y::r=>if y=x then 0 else oZ x r+1
theorem qD{x:SyS}:∀ {l:List SyS},x∈l->l[oZ x l]?=some x
 |[],h=>by cases h
 |y::r,h=>by
  unfold oZ
  split
  ·rename_i e;subst e;rfl
  ·rename_i e
   rw[im]
   exact qD ((az.1 h).resolve_left λe'=>e e'.symm)
theorem tD{x:SyS}:∀ {l:List SyS},¬x∈l->oZ x l=l.length
 |[],_=>rfl
 |y::r,h=>by
  have h1:¬y=x:=λe=>h (by rw[e];exact bx)
  rw[oZ,if_neg h1,tD (λhm=>h (bE _ hm)),aO]
theorem yU{x:SyS}:∀ {l:List SyS} (k:Nat) (h:k<l.length),k<oZ x l->l[k]≠x
 |[],k,h,_=>by simp at h
 |y::r,k,h,hk=>by
  unfold oZ at hk
  split at hk
  ·omega
  ·rename_i e
   cases k with
   |zero=>exact e
   |succ k=>exact yU k (by simpa using h) (by omega)
theorem yV{x:SyS}:∀ {l:List SyS},oZ x l<=l.length
 |[]=>aq _
 |y::r=>by
  have:=yV (x:=x) (l:=r)
  unfold oZ
  split
  ·omega
  ·rw[aO];omega
def goN(sy:List SyS)(to:List Int)(x:SyS):Int:=match to[oZ x sy]? with
 |some t=>t
 |none=>-1
def goW(w:StB)(st:Int)(x:SyS):Int:=if st<0 then -1 else match w.2.1[st.toNat]?,w.2.2[st.toNat]? with
 |some sy,some to=>goN sy to x
 |_,_=>-1
theorem KQ{y s:SyS}(h:y=s):(bif(y.1 == s.1)then decide (y.2=s.2)else false)=true:=mI.2 (by rw[h])
theorem KR{y s:SyS}(h:¬y=s):(bif(y.1 == s.1)then decide (y.2=s.2)else false)=false:=by
 cases hq:(bif(y.1 == s.1)then decide (y.2=s.2)else false)
 ·rfl
 ·have:=mI.1 hq
  cases this
  exact absurd rfl h
theorem Db{g:Grm}{w:StB}(hk:OkB g w.1.length w){st:Int}(h0:0<=st)(h1:st<(w.1.length:Int))(x:SyS):∃ (l:List ItS) (sy:List SyS) (to:List Int),w.1[st.toNat]?=some l/\w.2.1[st.toNat]?=some sy/\w.2.2[st.toNat]?=some to/\(mvR w.2.1 w.2.2)[st.toNat]?=some (sy.zip to)/\to.length=sy.length/\sy=bV g l/\l.length<=273/\goW w st x=goN sy to x:=by
 obtain⟨l,sy,to,g1,g2,g3,g4,g5,g6,g7⟩:=N3 hk (i:=st.toNat) (by omega)
 refine⟨l,sy,to,g1,g2,g3,g4,g5,g6,g7,?_⟩
 unfold goW
 rw[if_neg (by omega),g2,g3]
theorem oV{g:Grm}{w:StB}(hk:OkB g w.1.length w){st:Int}(h:st<0\/(w.1.length:Int)<=st)(x:SyS):goW w st x=-1:=by
 unfold goW
 by_cases h0:st<0
 ·rw[if_pos h0]
 ·rw[if_neg h0,bn (by rw[hk.l1];omega)]
theorem KS{g:Grm}{w:StB}(hk:OkB g w.1.length w)(st:Int)(x:SyS):p25 N0 (w,(st,(x,())))=some ((goW w st x,()),()):=by
 unfold p25
 simp only[aJ]
 simp only[bO,decide_eq_true_eq]
 by_cases h0:st<0
 ·rw[if_pos h0,if_pos trivial,oV hk (.inl h0)]
 rw[if_neg h0]
 by_cases h1:(w.2.1.length:Int)<=st
 ·rw[if_pos h1,oV hk (.inr (by rw[hk.l1]at h1;exact h1))]
 rw[if_neg h1]
 rw[hk.l1]at h1
 obtain⟨l,sy,to,g1,g2,g3,_,g5,g6,g7,g8⟩:=Db hk (by omega:0<=st) (by omega) x
 have hsl:=lQ g l
 rw[<-g6]at hsl
 have hp:=yV (x:=x) (l:=sy)
 have h00:0<=st:=by omega
 simp only[h00,if_true,g2,g3]
 refine bQ (λk=>((),((k:Int),()))) (λ_=>some ((goW w st x,()),())) (oZ x sy) (λk hk' L hL=>?_) N0 0 (aH _) (by unfold N0;omega)
 rw[g8]at hL |-
 rcases ap k sy.length with hkl|hkl
 ·have ck:(k:Int)<(sy.length:Int):=by omega
  have hk1:IntKind.wrap .i64 ((k:Int)+1)=((k+1:Nat):Int):=cD hkl (by omega)
  have hkt:k<to.length:=by omega
  simp only[ck,if_true,aQ,ae,ah hkl,ah hkt,hk1]
  rcases ap k (oZ x sy)with hlt|hge
  ·have hf:=KR (yU k hkl hlt)
   simp only[<-bO,hf,cond_false]
   exact hL hlt
  ·have e:k=oZ x sy:=by omega
   have he:sy[k]=x:=by
    by_cases hm:x∈sy
    ·have:=qD hm
     rw[<-e,ah hkl]at this
     exact cS this
    ·have:=tD hm
     omega
   have ht:=KQ he
   simp only[<-bO,ht,cond_true]
   unfold goN
   rw[<-e,ah hkt]
   exact if_pos trivial
 ·have ck:¬(k:Int)<(sy.length:Int):=by omega
  simp only[ck,if_false]
  unfold goN
  rw[bn (by omega)]
theorem KT{g:Grm}{w:StB}(hk:OkB g w.1.length w)(st:Int)(x:SyS):p27 N0 ((w.1,mvR w.2.1 w.2.2),(st,(x,())))=some ((goW w st x,()),()):=by
 have hml:=N2 hk
 unfold p27
 simp only[aJ]
 simp only[bO,decide_eq_true_eq]
 by_cases h0:st<0
 ·rw[if_pos h0,if_pos trivial,oV hk (.inl h0)]
 rw[if_neg h0]
 by_cases h1:((mvR w.2.1 w.2.2).length:Int)<=st
 ·rw[if_pos h1,oV hk (.inr (by rw[hml]at h1;exact h1))]
 rw[if_neg h1]
 rw[hml]at h1
 obtain⟨l,sy,to,g1,g2,g3,g4,g5,g6,g7,g8⟩:=Db hk (by omega:0<=st) (by omega) x
 have hsl:=lQ g l
 rw[<-g6]at hsl
 have hp:=yV (x:=x) (l:=sy)
 have h00:0<=st:=by omega
 have hzl:(sy.zip to).length=sy.length:=by rw[rj];omega
 simp only[h00,if_true,g4,hzl]
 refine bQ (λk=>((),((k:Int),()))) (λ_=>some ((goW w st x,()),())) (oZ x sy) (λk hk' L hL=>?_) N0 0 (aH _) (by unfold N0;omega)
 rw[g8]at hL |-
 rcases ap k sy.length with hkl|hkl
 ·have ck:(k:Int)<(sy.length:Int):=by omega
  have hk1:IntKind.wrap .i64 ((k:Int)+1)=((k+1:Nat):Int):=cD hkl (by omega)
  have hkt:k<to.length:=by omega
  simp only[ck,if_true,aQ,ae,N4 g5 hkl,hk1]
  rcases ap k (oZ x sy)with hlt|hge
  ·have hf:=KR (yU k hkl hlt)
   simp only[<-bO,hf,cond_false]
   exact hL hlt
  ·have e:k=oZ x sy:=by omega
   have he:sy[k]=x:=by
    by_cases hm:x∈sy
    ·have:=qD hm
     rw[<-e,ah hkl]at this
     exact cS this
    ·have:=tD hm
     omega
   have ht:=KQ he
   simp only[<-bO,ht,cond_true]
   unfold goN
   rw[<-e,ah hkt]
   exact if_pos trivial
 ·have ck:¬(k:Int)<(sy.length:Int):=by omega
  simp only[ck,if_false]
  unfold goN
  rw[bn (by omega)]
theorem Dc(g:GrS)(hg:Gs g):eK g []=[]:=by
 have h0:OkI []:=⟨(λx h=>by cases h),(λx h=>by cases h)⟩
 have hc:Can (ClG g []) []:=EB.congr λp d o=>⟨λh=>h.elim,λh=>Cl.least (A:=λ_ _ _=>False) (λp d o hb=>CQ hb) (λp d o hs=>by
  obtain⟨_,hs⟩:=hs
  cases o with
  |none=>obtain⟨_,_,h,_⟩:=hs;exact h
  |some b=>obtain⟨_,_,_,h|h⟩:=hs <;> exact h.1) h⟩
 exact(fg hg h0).Bj hc
theorem BH{g:GrS}(hg:Gs g){l:List ItS}{x:SyS}(h:¬Nxs g l x):tgt g l x=[]:=by
 have:goL g x l=[]:=by
  cases hq:goL g x l with
  |nil=>rfl
  |cons y r=>
   obtain⟨z,hz,hn,_⟩:=qy.1 (show y∈goL g x l by rw[hq];exact bx)
   exact absurd ⟨z,hz,hn⟩ h
 unfold tgt
 rw[this]
 exact Dc g hg
theorem KU{g:GrS}(hg:Gs g){l:List ItS}(hl:OkI l){x:SyS}(h:Nxs g l x):tgt g l x≠[]:=by
 obtain⟨z,hz,hn⟩:=h
 have hok:=pC hg x hl
 have hm:(z.1,(z.2.1+1,z.2.2))∈goL g x l:=qy.2 ⟨z,hz,hn,rfl⟩
 have h1:=((kg hok.bd).at' z.1 (z.2.1+1) none).2 ⟨_,hm,rfl,rfl⟩
 have h2:=((fg hg (qz hok)).at' z.1 (z.2.1+1) none).2 (.base h1)
 obtain⟨y,hy,_⟩:=h2
 intro e
 rw[show eK g (fN (goL g x l))=tgt g l x from rfl,e]at hy
 cases hy
theorem Dd{g:GrS}(hg:Gs g):eK g (jo g)≠[]:=by
 have h2:=((fg hg (jO hg)).at' (g.2.2.1.length:Int) 0 none).2 (.base ⟨_,aM.2 rfl,rfl,rfl⟩)
 obtain⟨y,hy,_⟩:=h2
 intro e
 rw[e]at hy;cases hy
def N5(w:StB)(st:Int)(L:List ItS):Prop:=(st=-1/\L=[])\/∃ i:Nat,st=(i:Int)/\w.1[i]?=some L/\L≠[]
theorem N5.next{g:Grm}{w:StB}(hg:Gs g)(hk:OkB g w.1.length w){st:Int}{L:List ItS}(h:N5 w st L)(x:SyS):N5 w (goW w st x) (tgt g L x):=by
 rcases h with⟨rfl,rfl⟩|⟨i,rfl,h1,h2⟩
 ·left
  refine⟨oV hk (.inl (by omega)) x,BH hg ?_⟩
  rintro⟨z,hz,_⟩;cases hz
 ·have hi:=(bm.1 h1).1
  obtain⟨l,sy,to,g1,g2,g3,g4,g5,g6,g7,g8⟩:=Db hk (by omega:0<=(i:Int)) (by omega) x
  rw[ae]at g1 g2 g3
  rw[h1]at g1
  cases g1
  have hL:=(hk.it L (cJ h1)).1
  rw[g8]
  by_cases hm:Nxs g L x
  ·right
   have hms:x∈sy:=by rw[g6];exact((tw g L).mem x).2 hm
   have hp:=qD hms
   obtain⟨l',r1,r2,to',r3,r4,r5⟩:=hk.row i hi
   rw[h1]at r1
   cases r1
   rw[g3]at r3
   cases r3
   rw[g6]at hp
   obtain⟨t,t1,t2⟩:=r5 _ _ hp
   refine⟨t,?_,t2,KU hg hL hm⟩
   unfold goN
   rw[g6,t1]
  ·left
   have hms:¬x∈sy:=by rw[g6];exact λh=>hm (((tw g L).mem x).1 h)
   refine⟨?_,BH hg hm⟩
   unfold goN
   rw[tD hms,bn (by omega)]
def rnW(w:StB)(row:List SyS):Int:=row.foldl (goW w) 0
theorem qE(w:StB)(row:List SyS){j:Nat}(h:j<row.length):rnW w (row.take (j+1))=goW w (rnW w (row.take j)) row[j]:=by
 unfold rnW
 rw[cZ _ _ h,iA]
 rfl
theorem N6{g:Grm}{w:StB}(hk:OkB g w.1.length w)(row:List SyS){j:Nat}(CX:rnW w (row.take j)<0)(hm:rnW w (row.take j)=-1):∀ k,j<=k->k<=row.length->rnW w (row.take k)=-1:=by
 intro k
 induction k with
 |zero=>
  intro h _;have:j=0:=by omega
  subst this;exact hm
 |succ k ih=>
  intro h hk'
  by_cases e:j=k+1
  ·subst e;exact hm
  ·rw[qE w row (by omega),ih (by omega) (by omega)]
   exact oV hk (.inl (by omega)) _
def itW(g:Grm)(row:List SyS):List ItS:=row.foldl (tgt g) (eK g (jo g))
theorem vF(g:Grm)(row:List SyS){j:Nat}(h:j<row.length):itW g (row.take (j+1))=tgt g (itW g (row.take j)) row[j]:=by
 unfold itW
 rw[cZ _ _ h,iA]
 rfl
theorem vG{g:Grm}{w:StB}(t:Trd g w)(row:List SyS):∀ j,j<=row.length->N5 w (rnW w (row.take j)) (itW g (row.take j))
 |0,_=>by
  right
  obtain⟨_,e,he⟩:=yT t.gs _ _ _ _ (vC t.gs) t.bf
  refine⟨0,rfl,?_,Dd t.gs⟩
  rw[he]
  rfl
 |j+1,hj=>by
  rw[qE w row (by omega),vF g row (by omega)]
  exact(vG t row j (by omega)).next t.gs t.okB _
theorem KW{g:Grm}(hg:Gs g)(row:List SyS):∀ j,j<=row.length->OkI (itW g (row.take j))/\(itW g (row.take j)).length<=273
 |0,_=>by
  have h1:=jO hg
  exact⟨oS hg h1,vD hg h1⟩
 |j+1,hj=>by
  rw[vF g row (by omega)]
  exact yQ hg (KW hg row j (by omega)).1 _
theorem QW{g:Grm}{w:StB}(t:Trd g w){row:List SyS}(hr:row.length<=1000):p22 N0 ((w.1,mvR w.2.1 w.2.2),(row,()))=some ((rnW w row,()),()):=by
 have hk:=t.okB
 obtain⟨_,e,he⟩:=yT t.gs _ _ _ _ (vC t.gs) t.bf
 have hne:¬((w.1.length:Nat):Int)=0:=by rw[he,ak];simp[st0];omega
 unfold p22
 simp only[aJ]
 simp only[bO,decide_eq_true_eq,hne,if_false]
 refine aZ (λm z r=>∃ (j:Nat),z=((),(rnW w (row.take j),((j:Int),())))/\j<=row.length/\m=row.length-j/\r=some ((rnW w row,()),())) ?_ N0 row.length _ _ (by unfold N0;omega) ⟨0,rfl,aH _,rfl,rfl⟩
 rintro m z r ⟨j,rfl,hj,rfl,rfl⟩ K hK
 rcases ap j row.length with h|h
 ·have c:(j:Int)<(row.length:Int):=by omega
  have hj1:IntKind.wrap .i64 ((j:Int)+1)=((j+1:Nat):Int):=cD h (by omega)
  simp only[c,if_true,aQ,ae,ah h,hj1]
  rw[aa (KT hk _ _)]
  simp only
  rw[<-qE w row h]
  by_cases hn:rnW w (row.take (j+1))<0
  ·rw[if_pos hn]
   have hm:rnW w (row.take (j+1))=-1:=by
    rcases vG t row (j+1) h with h1|⟨i,h1,_⟩
    ·exact h1.1
    ·omega
   have:=N6 hk row hn hm row.length h (aq _)
   rw[cK]at this
   rw[this]
  ·rw[if_neg hn]
   exact hK _ _ _ (by omega) ⟨j+1,rfl,h,rfl,rfl⟩
 ·have c:¬(j:Int)<(row.length:Int):=by omega
  simp only[c,if_false]
  rw[bR h]
theorem KX{g:Grm}{P:List ItS->Prop}(ht:∀ l s,P (tgt g l s)){l:List ItS}{items:List (List ItS)}(h:∀ m∈items,P m):∀ k,∀ m∈(dl g l items k).1,P m
 |0=>h
 |k+1=>by
  have ih:=KX ht (l:=l) h k
  unfold dl
  split
  ·rename_i s _
   intro m hm
   change m∈jA (dl g l items k).1 (tgt g l s)at hm
   unfold jA at hm
   split at hm
   ·exact ih m hm
   ·rcases av.1 hm with hm|hm
    ·exact ih m hm
    ·rw[aM.1 hm];exact ht l s
  ·exact ih
theorem OE{g:Grm}{P:List ItS->Prop}(ht:∀ l s,P (tgt g l s)):∀ (m i:Nat) (s s':StB),(∀ l∈s.1,P l)->bfs g m i s=some s'->∀ l∈s'.1,P l
 |0,i,s,s',_,h=>by cases h
 |m+1,i,s,s',hs,h=>by
  rw[bfs]at h
  split at h
  ·cases h;exact hs
  ·split at h
   ·cases h
   ·refine OE ht m (i+1) (gg g i s) s' ?_ h
    unfold gg
    split
    ·exact KX ht hs _
    ·exact hs
def RgP(g:Grm)(l:List ItS):Prop:=∀ x∈l,0<=x.1/\x.1<=(g.2.2.1.length:Int)
theorem xl{g:Grm}{l:List ItS}(h:RgP g l):RgP g (eK g l):=by
 intro x hx
 obtain⟨p,d,_,_,ha,e1,_⟩:=lO.1 hx
 rw[e1]
 have key:∀ {p d:Int} {o:Option Nat},ClG g l p d o->0<=p/\p<=(g.2.2.1.length:Int):=by
  intro p d o hc
  have hst:∀ {p d q:Int},stG g p d q->0<=q/\q<=(g.2.2.1.length:Int):=λ⟨k,pr,e,h1,_⟩=>by
   have:=(bm.1 h1).1
   omega
  unfold ClG at hc
  cases hc with
  |base hb=>
   obtain⟨z,hz,h1,_⟩:=hb.there
   have:=h z hz
   rw[h1]at this;exact this
  |there _ h2=>exact hst h2
  |first _ h2 _=>exact hst h2
  |look _ h2 _=>exact hst h2
 exact key ha
theorem QX{g:Grm}(hg:Gs g)(l:List ItS)(s:SyS):RgP g (tgt g l s):=by
 refine xl λx hx=>?_
 have hm:∃ y∈goL g s l,y.1=x.1:=by
  have key:∀ (m:List ItS),∀ y∈fN m,∃ z∈m,z.1=y.1:=by
   have VB:∀ (z:ItS) (o:List ItS),∀ y∈mH z o,y.1=z.1\/∃ u∈o,u.1=y.1:=by
    intro z o
    induction o with
    |nil=>intro y hy;rw[show mH z []=[z]from rfl,aM]at hy;rw[hy];exact .inl rfl
    |cons u o ih=>
     intro y hy
     unfold mH at hy
     split at hy
     ·rcases az.1 hy with rfl|hy
      ·exact .inr ⟨_,bx,rfl⟩
      ·rcases ih y hy with h|⟨v,hv,e⟩
       ·exact .inl h
       ·exact .inr ⟨v,bE _ hv,e⟩
     ·split at hy
      ·rcases az.1 hy with rfl|hy
       ·exact .inr ⟨u,bx,rfl⟩
       ·exact .inr ⟨y,bE _ hy,rfl⟩
      ·rcases az.1 hy with rfl|hy
       ·exact .inl rfl
       ·exact .inr ⟨y,hy,rfl⟩
   intro m
   have gen:∀ (m o:List ItS),∀ y∈m.foldl (λo x=>mH x o) o,(∃ z∈m,z.1=y.1)\/∃ u∈o,u.1=y.1:=by
    intro m
    induction m with
    |nil=>intro o y hy;exact .inr ⟨y,hy,rfl⟩
    |cons z m ih=>
     intro o y hy
     rcases ih (mH z o) y hy with⟨v,hv,e⟩|⟨u,hu,e⟩
     ·exact .inl ⟨v,bE _ hv,e⟩
     ·rcases VB z o u hu with h|⟨v,hv,e'⟩
      ·exact .inl ⟨z,bx,h.symm.trans e⟩
      ·exact .inr ⟨v,hv,e'.trans e⟩
   intro y hy
   rcases gen m [] y hy with h|⟨u,hu,_⟩
   ·exact h
   ·cases hu
  exact key _ x hx
 obtain⟨y,hy,e⟩:=hm
 obtain⟨z,hz,hn,rfl⟩:=qy.1 hy
 have h1:=yH hn
 have:=By (g:=g) (q:=z.1) (λe=>by rw[e]at h1;simp at h1)
 rw[<-e]
 exact this
theorem QY{g:Grm}{w:StB}(t:Trd g w):∀ l∈w.1,RgP g l:=OE (λl s=>QX t.gs l s) _ _ _ _ (λl hl=>by
 rw[aM.1 hl]
 refine xl λx hx=>?_
 rw[aM.1 hx]
 exact⟨by show(0:Int)<=(g.2.2.1.length:Int);omega,iE _⟩) t.bf
def jq(g:Grm)(x:ItS):Bool:=decide (x.2.1=((dO g x.1).1.length:Int))
theorem N7{g:Grm}{q:Int}(h:0<=q/\q<=(g.2.2.1.length:Int)):(dO g q).2=true:=by
 unfold dO
 split
 ·split <;> rfl
 ·split
  ·rfl
  ·omega
theorem QZ{g:Grm}{x:ItS}(h:0<=x.1/\x.1<=(g.2.2.1.length:Int)):p57 N0 (g,(x,()))=some ((jq g x,()),()):=by
 unfold p57
 simp only[aJ]
 rw[aa (C0 g x.1)]
 simp only
 rw[N7 h,cond_true]
 rfl
theorem sU{α:Type}(p:α->Bool)(l:List α){j:Nat}(h:j<l.length):(l.take (j+1)).filter p=(l.take j).filter p++(if p l[j]=true then [l[j]]else []):=by
 rw[cZ _ _ h,n5]
 congr 1
 cases hp:p l[j]
 ·simp[hp]
 ·simp[hp]
theorem G8{α:Type}(p:α->Bool)(l:List α){j:Nat}(h:j<l.length)(hp:p l[j]=true):(l.filter p)[((l.take j).filter p).length]?=some l[j]:=by
 have e:l.filter p=(l.take j).filter p++(l[j]::(l.drop (j+1)).filter p):=by
  conv=>lhs;rw[<-eA j l,n5,cQ h]
  rw[List.filter_cons,if_pos hp]
 rw[e,fo (aq _)]
 simp
theorem Q0{g:Grm}{w:StB}(t:Trd g w){i:Nat}{L:List ItS}(h:w.1[i]?=some L):p28 N0 ((w.1,mvR w.2.1 w.2.2),(g,((i:Int),())))=some ((((L.filter (jq g)).map (·.1)),(((L.filter (jq g)).map (·.2.2)),())),()):=by
 have hi:=(bm.1 h).1
 have hLm:=cJ h
 have hrg:=QY t L hLm
 have hLl:=(t.okB.it L hLm).2
 unfold p28
 simp only[aJ]
 simp only[bO,decide_eq_true_eq]
 have h1:¬(i:Int)<0:=by omega
 have h2:¬(w.1.length:Int)<=(i:Int):=by omega
 simp only[h1,if_false,h2,aQ,if_true,ae,h]
 refine bQ (λj=>((),(((L.take j).filter (jq g)).map (·.1),(((L.take j).filter (jq g)).map (·.2.2),((j:Int),()))))) (λ_=>some ((((L.filter (jq g)).map (·.1)),(((L.filter (jq g)).map (·.2.2)),())),())) L.length (λj hj K hK=>?_) N0 0 (aH _) (by unfold N0;omega)
 rcases ap j L.length with hjl|hjl
 ·have c:(j:Int)<(L.length:Int):=by omega
  have hK:=hK hjl
  have hj1:IntKind.wrap .i64 ((j:Int)+1)=((j+1:Nat):Int):=cD hjl (by omega)
  have hfl:((L.take j).filter (jq g)).length<=j:=bF (nX _ _) (by rw[aL];omega)
  rw[sU _ _ hjl]at hK
  simp only[c,if_true,aQ,ae,ah hjl,hj1]
  rw[aa (QZ (hrg _ (bo hjl)))]
  simp only
  cases hw:jq g L[j]
  ·rw[hw]at hK
   simpa using hK
  ·rw[hw]at hK
   simp only[if_true,bN,aO,bH]
   rw[if_pos (by omega),if_pos (by omega),if_pos (by omega),if_pos (by omega)]
   simpa using hK
 ·have c:¬(j:Int)<(L.length:Int):=by omega
  simp only[c,if_false]
  rw[bR hjl]
theorem N8(s:List (List ItS)×List (List (SyS×Int)))(g:Grm):p28 N0 (s,(g,(-1,())))=some (([],([],())),()):=by
 unfold p28
 simp only[aJ]
 simp only[bO,decide_eq_true_eq,show(-1:Int)<0 by omega,if_true]
set_option maxHeartbeats 4000000 in
theorem N9{g:Grm}(h:WfT y26 g)(row:List SyS)(at':Int):p6 N0 (g,(row,(at',())))=some ((true,()),()):=by
 obtain⟨w,b,h17,ht⟩:=NZ h
 unfold p6
 simp only
 rw[aa JX]
 simp only
 rw[aB,cond_false,aa h17]
 simp only[aJ]
 simp only[bO,decide_eq_true_eq]
 cases b
 ·simp only[aI,if_true]
 simp only[aB,au,if_false]
 by_cases h12:(12:Int)<(row.length:Int)
 ·rw[if_pos h12]
 rw[if_neg h12]
 have hrl:row.length<=12:=by omega
 have t:=ht rfl
 have hk:=t.okB
 have hg:=t.gs
 rw[aa t.p18]
 simp only[decide_true,aB,au,if_false]
 rw[aa (KC g)]
 simp only
 rw[aa (yI hg (jO hg) (by simp[jo]))]
 simp only
 refine bQ (λj=>((),(rnW w (row.take j),(itW g (row.take j),((j:Int),()))))) (λ_=>some ((true,()),())) row.length (λj hj K hK=>?_) N0 0 (aH _) (by unfold N0;omega)
 have Oa:=KW hg row j hj
 rcases ap j row.length with hjl|hjl
 ·have c:(j:Int)<(row.length:Int):=by omega
  have hK:=hK hjl
  have hj1:IntKind.wrap .i64 ((j:Int)+1)=((j+1:Nat):Int):=cD hjl (by omega)
  rw[qE w row hjl,vF g row hjl]at hK
  simp only[c,if_true,aQ,ae,ah hjl,hj1]
  generalize rnW w (row.take j)=st at *
  generalize itW g (row.take j)=L at *
  generalize row[j]=x at *
  rw[aa (KS hk st x)]
  simp only
  rw[aa (KD hg x Oa.1 (by omega))]
  simp only
  rw[aa (yI hg (qz (pC hg x Oa.1)) (by have:=yR hg Oa.2 x;omega))]
  simp only
  rw[aa (KT hk at' x)]
  simp only
  rw[aa (KS hk at' x)]
  simp only[decide_true,aB,au,if_false]
  exact hK
 ·have c:¬(j:Int)<(row.length:Int):=by omega
  have hinv:=vG t row row.length (aq _)
  rw[bR hjl]at Oa |-
  rw[cK]at hinv
  simp only[c,if_false]
  rw[aa (QW t (by omega))]
  simp only[decide_true,aB,au,if_false]
  generalize rnW w row=st at *
  generalize itW g row=L at *
  rcases hinv with⟨rfl,rfl⟩|⟨i,rfl,h1,h2⟩
  ·simp only[show(-1:Int)<0 by omega,decide_true,bH,Int.natCast_zero,beq_self_eq_true,aB,au,if_false,if_true]
   rw[aa (N8 _ _)]
   simp
  ·have hne:¬((L.length:Nat):Int)=0:=by
    have:=List.length_pos_iff.2 h2
    omega
   have hnn:¬(i:Int)<0:=by omega
   simp only[hne,hnn,decide_false,beq_self_eq_true,aB,au,if_false]
   rw[aa (Q0 t h1)]
   simp only[bN]
   have hfl:(L.filter (jq g)).length<=L.length:=nX _ _
   refine bQ (λk=>((),(((((L.take k).filter (jq g)).length:Nat):Int),((k:Int),())))) (λ_=>some ((true,()),())) L.length (λk hk' M hM=>?_) N0 0 (aH _) (by unfold N0;omega)
   rcases ap k L.length with hkl|hkl
   ·have ck:(k:Int)<(L.length:Int):=by omega
    have hM:=hM hkl
    have hk1:IntKind.wrap .i64 ((k:Int)+1)=((k+1:Nat):Int):=cD hkl (by omega)
    have V0:((L.take k).filter (jq g)).length<=k:=bF (nX _ _) (by rw[aL];omega)
    rw[sU _ _ hkl]at hM
    simp only[ck,if_true,aQ,ae,ah hkl,hk1]
    rw[aa (C1 g L[k].1)]
    simp only
    by_cases hw:L[k].2.1=((dO g L[k].1).1.length:Int)
    ·have hwb:jq g L[k]=true:=by unfold jq;simp[hw]
     have hat:=G8 (jq g) L hkl hwb
     have hlt:=(bm.1 hat).1
     rw[if_pos hwb,ak]at hM
     have hc1:¬(((L.filter (jq g)).length:Nat):Int)<=((((L.take k).filter (jq g)).length:Nat):Int):=by omega
     have hm1:((L.filter (jq g)).map (·.1))[((L.take k).filter (jq g)).length]?=some L[k].1:=by rw[bS,hat];rfl
     have hm2:((L.filter (jq g)).map (·.2.2))[((L.take k).filter (jq g)).length]?=some L[k].2.2:=by rw[bS,hat];rfl
     have hw1:IntKind.wrap .i64 ((((L.take k).filter (jq g)).length:Int)+1)=((((L.take k).filter (jq g)).length+1:Nat):Int):=by rw[bD (by omega) (by omega)];simp
     simp only[hw,decide_true,aB,au,if_false,hc1,hm1,hm2,hw1]
     exact hM
    ·have hwb:jq g L[k]=false:=by unfold jq;simp[hw]
     rw[if_neg (by rw[hwb];exact iz),b9]at hM
     simp only[hw,decide_false,aI,if_true]
     exact hM
   ·have ck:¬(k:Int)<(L.length:Int):=by omega
    rw[bR hkl]
    simp only[ck,if_false,decide_true,if_true]
end
end Go.Proofs.YthalkfdkbalpmaaGreat.Rf.Rk
namespace Go.Proofs.YthalkfdkbalpmaaGreat
open Go Go.ChangeShapes Go.WideShapes Go.ChangeAt Go.RowKit Go.Proofs.YthalkfdkbalpmaaGreat.Rf
noncomputable section
theorem vZ:ownKnob Tryz.prog.godebug=none:=by kernel_rfl
theorem vH:laidOutB Tryz.prog=true:=by kernel_rfl
set_option maxRecDepth 100000 in
theorem sr(os:Os)(started:os.Started)(H:Type)(enc:TypeId×Value->H):
 ReturnsInHanded {} Tryz.checked os 6 .any (Rows.statesRunSpec.pre6 enc Tryz.prog Tryz.f6 Rows.statesRunRow.domain false) (Rows.statesRunSpec.post enc Tryz.prog Tryz.f6 false true false false):=by
 refine returnsInHanded_of_change (C:=Tryz.checked) vZ started (by kernel_rfl) Tryz.func6
  (ChangeSpec.witness6 (enc:=enc) (C:=Tryz.checked) false ⟨#[],#[.agg #[.slice none 0 0,.slice none 0 0,.slice none 0 0,.slice none 0 0,.int .i64 0],.slice none 0 0,.int .i64 0],[]⟩ 8 (by kernel_rfl) (by kernel_rfl) (by kernel_rfl) (by kernel_rfl)) ?_
 intro W base args ds gs before SQ hW0 V1 _
 have hW:DataW.Whole enc Tryz.prog Tryz.f6.params.toList Rows.statesRunSpec.vars false W args.toList ds gs before:=hW0
 have O7:∀ (j:Nat) t v,Tryz.f6.params.toList[j]?=some t->args[j]?=some v->Value.okWide Tryz.prog W .any base t v:=λj t v h1 h2=>SQ j t v (by simpa using h1) h2
 have hA:∃ p,DataW.TrodAll enc Tryz.prog W 0 (λ_=>true) true Tryz.f6.params.toList args.toList ds p:=by
  obtain⟨p,q,hA0,_⟩:=hW
  exact⟨p,hA0⟩
 obtain⟨p,hA⟩:=hA
 refine(Gg ID (ok6 N0) (λx hx=>by obtain⟨g,row,at1,u⟩:=x;exact Rk.N9 hx.1 row at1) (n:=12) (ts:=Tryz.f6.params.toList) (by rw[Tryz.params6];rfl) hA O7 (λp hp=>by cases hp)).mono λe W' he=>?_
 obtain⟨he,hb⟩:=he
 exact⟨.bool true,he,IB vH (s:=Rows.statesRunSpec) rfl ⟨4,by kernel_rfl,Tryz.underlying4⟩ (λds hd=>by rw[Tryz.params6]at hd;match ds,hd with|[_,_,_],_=>rfl) (by rw[Tryz.params6];kernel_rfl) hW hb⟩
theorem statesRun_holds:Rows.StatesRunSaid:=
 OpenClaim.holds_of_wide 6 Tryz.f6 rfl rfl rfl rfl rfl rfl rfl ⟨rfl,rfl,rfl,rfl,rfl⟩ rfl rfl rfl rfl rfl (by kernel_rfl) Tryz.func6 (by kernel_rfl)
  (of_decide_eq_true (by kernel_rfl)) (by unfold Func.isWrapper;first|(rw[if_pos (by decide +kernel)];kernel_rfl)|(rw[if_neg (by decide +kernel)];exact⟨rfl,rfl⟩))
  (λos started H enc _=>sr os started H enc)
end
end Go.Proofs.YthalkfdkbalpmaaGreat
