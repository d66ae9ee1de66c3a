/- A part of a proof that the given statement of this claim is true of the program. No conditions. Printed by pack2.py. -/
import Derived.Test.YtphipehmbefejaaGreatU5
set_option linter.unusedVariables false
set_option linter.unusedSimpArgs false
namespace Go.Proofs.YtphipehmbefejaaGreat.Rf.Rk
open Go Go.Proofs.YtphipehmbefejaaGreat.Rf
noncomputable section
def pI(o:List ItS)(x:ItS):Bool:=match o[o.length-1]? with
 |none=>true
 |some y=>ltB y x
theorem vz{o:List ItS}(hs:o.Pairwise ltK){x:ItS}:pI o x=true↔∀ y∈o,ltK y x:=by
 unfold pI
 by_cases ho:o=[]
 ·subst ho;simp
 ·have hl:o.length-1<o.length:=by have:=List.length_pos_iff.2 ho;omega
  rw[List.getElem?_eq_getElem hl]
  simp only[ku]
  constructor
  ·intro h y hy
   obtain⟨i,hi,rfl⟩:=eZ.1 hy
   by_cases e:i=o.length-1
   ·subst e;exact h
   ·exact pE (nU.1 hs i (o.length-1) hi hl (by omega)) h
  ·intro h;exact h _ (aN hl)
def lsN(l o:List ItS):Nat->Int
 |0=>-1
 |j+1=>match l[j]? with
  |some x=>if(pI o x&&(decide (lsN l o j<0)||(match l[(lsN l o j).toNat]? with
   |some z=>ltB x z
   |none=>false)))=true then(j:Int)else lsN l o j
  |none=>lsN l o j
theorem y0(l o:List ItS):∀ j,-1<=lsN l o j/\lsN l o j<j
 |0=>⟨by show(-1:Int)<=-1;omega,by show(-1:Int)<0;omega⟩
 |j+1=>by
  have ih:=y0 l o j
  unfold lsN
  split
  ·split <;> omega
  ·omega
theorem BR(l o:List ItS):∀ j,j<=l.length->(lsN l o j<0->∀ k (h:k<l.length),k<j->pI o l[k]=false)/\
 (0<=lsN l o j->∃ i,∃ h:i<l.length,lsN l o j=(i:Int)/\i<j/\pI o l[i]=true/\∀ k (h':k<l.length),k<j->pI o l[k]=true->¬ltK l[k] l[i])
 |0,_=>⟨λ_ k h hk=>by omega,λh=>by have:=y0 l o 0;omega⟩
 |j+1,hj=>by
  obtain⟨ih1,ih2⟩:=BR l o j (by omega)
  have hjl:j<l.length:=by omega
  unfold lsN
  rw[List.getElem?_eq_getElem hjl]
  simp only
  by_cases hc:(pI o l[j]&&(decide (lsN l o j<0)||(match l[(lsN l o j).toNat]? with
   |some z=>ltB l[j] z
   |none=>false)))=true
  ·rw[if_pos hc]
   rw[ag,aJ]at hc
   refine⟨λh=>by omega,λ_=>⟨j,hjl,rfl,by omega,hc.1,λk hk hkj hak=>?_⟩⟩
   by_cases e:k=j
   ·subst e;exact λh=>qA h
   ·rcases hc.2 with h|h
    ·have:=ih1 (by simpa using h) k hk (by omega)
     rw[this]at hak;cases hak
    ·by_cases H6:lsN l o j<0
     ·have:=ih1 H6 k hk (by omega)
      rw[this]at hak;cases hak
     ·obtain⟨i,hi,e1,e2,e3,e4⟩:=ih2 (by omega)
      rw[e1,aa,List.getElem?_eq_getElem hi]at h
      have h:=ku.1 h
      intro hlt
      exact e4 k hk (by omega) hak (pE hlt h)
  ·rw[if_neg hc]
   constructor
   ·intro H6 k hk hkj
    by_cases e:k=j
    ·subst e
     cases ha:pI o l[k]
     ·rfl
     ·exact absurd (by rw[ha];simp[H6]) hc
    ·exact ih1 H6 k hk (by omega)
   ·intro hnn
    obtain⟨i,hi,e1,e2,e3,e4⟩:=ih2 hnn
    refine⟨i,hi,e1,by omega,e3,λk hk hkj hak=>?_⟩
    by_cases e:k=j
    ·subst e
     intro hlt
     refine hc ?_
     rw[hak,e1,aa,List.getElem?_eq_getElem hi]
     simp only[ku.2 hlt,jA,Bool.and_self]
    ·exact e4 k hk (by omega) hak
def orN(l:List ItS)(x:ItS):Nat->Int
 |0=>0
 |j+1=>match l[j]? with
  |some z=>if eqB z x=true then orI (orN l x j) z.2.2 else orN l x j
  |none=>orN l x j
theorem LL(l:List ItS)(x:ItS)(j:Nat):orN l x (j+1)=(match l[j]? with
 |some z=>if eqB z x=true then orI (orN l x j) z.2.2 else orN l x j
 |none=>orN l x j):=rfl
theorem BS{l:List ItS}(hb:∀ x∈l,je x)(x:ItS):∀ j,U64 (orN l x j)
 |0=>xq
 |j+1=>by
  unfold orN
  split
  ·rename_i z hz
   split
   ·exact mE (BS hb x j) (hb z (List.mem_of_getElem? hz))
   ·exact BS hb x j
  ·exact BS hb x j
theorem FA(l:List ItS)(x:ItS)(b:Nat):∀ j,(orN l x j).toNat.testBit b=true↔∃ k,k<j/\∃ z,l[k]?=some z/\z.1=x.1/\z.2.1=x.2.1/\z.2.2.toNat.testBit b=true
 |0=>by simp[orN]
 |j+1=>by
  have ih:=FA l x b j
  have key:(∃ k,k<j+1/\∃ z,l[k]?=some z/\z.1=x.1/\z.2.1=x.2.1/\z.2.2.toNat.testBit b=true)↔(∃ k,k<j/\∃ z,l[k]?=some z/\z.1=x.1/\z.2.1=x.2.1/\z.2.2.toNat.testBit b=true)\/(∃ z,l[j]?=some z/\z.1=x.1/\z.2.1=x.2.1/\z.2.2.toNat.testBit b=true):=by
   constructor
   ·rintro⟨k,hk,h⟩
    by_cases e:k=j
    ·subst e;exact .inr h
    ·exact .inl ⟨k,by omega,h⟩
   ·rintro(⟨k,hk,h⟩|h)
    ·exact⟨k,by omega,h⟩
    ·exact⟨j,by omega,h⟩
  rw[key,<-ih,LL]
  cases hz:l[j]? with
  |none=>simp
  |some z=>
   simp only
   by_cases he:eqB z x=true
   ·rw[if_pos he,dG,aJ]
    have:=oR.1 he
    constructor
    ·rintro(h|h)
     ·exact .inl h
     ·exact .inr ⟨z,rfl,this.1,this.2,h⟩
    ·rintro(h|⟨z',e,_,_,h⟩)
     ·exact .inl h
     ·cases e;exact .inr h
   ·rw[if_neg he]
    constructor
    ·exact .inl
    ·rintro(h|⟨z',e,h1,h2,_⟩)
     ·exact h
     ·cases e;exact absurd (oR.2 ⟨h1,h2⟩) he
structure Part(l o:List ItS):Prop where
 st:o.Pairwise ltK
 bd:∀ x∈o,je x
 le:∀ y∈o,(∃ x∈l,x.1=y.1/\x.2.1=y.2.1)/\∀ b,y.2.2.toNat.testBit b=true↔∃ x∈l,x.1=y.1/\x.2.1=y.2.1/\x.2.2.toNat.testBit b=true
 al:∀ x∈l,(∃ y∈o,y.1=x.1/\y.2.1=x.2.1)\/∀ y∈o,ltK y x
theorem Part.can{l o:List ItS}(h:Part l o)(fK:∀ x∈l,∃ y∈o,y.1=x.1/\y.2.1=x.2.1):Can (At l) o:=by
 refine⟨h.st,h.bd,λp d q=>?_⟩
 cases q with
 |none=>
  constructor
  ·rintro⟨y,hy,rfl,rfl⟩;exact(h.le y hy).1
  ·rintro⟨x,hx,rfl,rfl⟩
   obtain⟨y,hy,e1,e2⟩:=fK x hx
   exact⟨y,hy,e1,e2⟩
 |some b=>
  constructor
  ·rintro⟨y,hy,rfl,rfl,hb⟩;exact((h.le y hy).2 b).1 hb
  ·rintro⟨x,hx,rfl,rfl,hb⟩
   obtain⟨y,hy,e1,e2⟩:=fK x hx
   exact⟨y,hy,e1,e2,((h.le y hy).2 b).2 ⟨x,hx,e1.symm,e2.symm,hb⟩⟩
theorem DD{o:List ItS}(h:o.Pairwise ltK):o.Nodup:=h.imp λ{a b} hab e=>by subst e;exact qA hab
theorem Part.full{l o:List ItS}(h:Part l o)(hl:l.length<=o.length):∀ x∈l,∃ y∈o,y.1=x.1/\y.2.1=x.2.1:=by
 intro x hx
 rcases h.al x hx with h1|h1
 ·exact h1
 ·exfalso
  have hs:(o++[x]).Pairwise ltK:=gu.2 ⟨h.st,nW _ _,λa ha b hb=>by rw[aK.1 hb];exact h1 a ha⟩
  have:=rU (λ(y:ItS) (c:Nat)=>y∈o++[x]/\∃ z,l[c]?=some z/\z.1=y.1/\z.2.1=y.2.1) (λy y' c hy hy'=>by
   obtain⟨m1,z,e1,e2,e3⟩:=hy
   obtain⟨m2,z',f1,f2,f3⟩:=hy'
   rw[e1]at f1;cases f1
   exact pF hs y m1 y' m2 (by omega) (by omega)) l.length (o++[x]) (DD hs) (λy hy=>by
   have:∃ z∈l,z.1=y.1/\z.2.1=y.2.1:=by
    rcases au.1 hy with hy|hy
    ·exact(h.le y hy).1
    ·rw[aK.1 hy];exact⟨x,hx,rfl,rfl⟩
   obtain⟨z,hz,e1,e2⟩:=this
   obtain⟨c,hc,rfl⟩:=eZ.1 hz
   exact⟨c,hc,hy,_,List.getElem?_eq_getElem hc,e1,e2⟩)
  rw[ak]at this
  simp at this
  omega
theorem Part.more{l o:List ItS}(h:Part l o)(hb:∀ x∈l,je x){i:Nat}(hi:i<l.length)(ha:pI o l[i]=true)(SQ:∀ k (h':k<l.length),pI o l[k]=true->¬ltK l[k] l[i]):
 Part l (o++[(l[i].1,(l[i].2.1,orN l l[i] l.length))]):=by
 have hab:=(vz h.st).1 ha
 refine⟨gu.2 ⟨h.st,nW _ _,λa ha' b hb'=>by rw[aK.1 hb'];exact hab a ha'⟩,λy hy=>?_,λy hy=>?_,λx hx=>?_⟩
 ·rcases au.1 hy with hy|hy
  ·exact h.bd y hy
  ·rw[aK.1 hy];exact BS hb _ _
 ·rcases au.1 hy with hy|hy
  ·exact h.le y hy
  ·rw[aK.1 hy]
   refine⟨⟨_,aN hi,rfl,rfl⟩,λb=>?_⟩
   show(orN l l[i] l.length).toNat.testBit b=true↔_
   rw[FA]
   constructor
   ·rintro⟨k,_,z,hz,e⟩;exact⟨z,List.mem_of_getElem? hz,e⟩
   ·rintro⟨z,hz,e⟩
    obtain⟨k,hk,rfl⟩:=eZ.1 hz
    exact⟨k,hk,_,List.getElem?_eq_getElem hk,e⟩
 ·rcases h.al x hx with⟨y,hy,e⟩|h1
  ·exact .inl ⟨y,au.2 (.inl hy),e⟩
  ·obtain⟨k,hk,rfl⟩:=eZ.1 hx
   have hk':=SQ k hk ((vz h.st).2 h1)
   rcases Ll l[i] l[k]with e|e|e
   ·refine .inr λy hy=>?_
    rcases au.1 hy with hy|hy
    ·exact h1 y hy
    ·rw[aK.1 hy];exact e
   ·exact .inl ⟨_,au.2 (.inr (aK.2 rfl)),e⟩
   ·exact absurd e hk'
set_option maxHeartbeats 2000000 in
theorem za{l:List ItS}(hb:∀ x∈l,je x)(hl:l.length<=1000000):HF N0 (l,())=some ((fo l,()),()):=by
 delta HF Ld Ap Bd Wi
 simp only[aE,bx,decide_eq_true_eq]
 have LK:=ja hb
 refine aZ (λm z r=>∃ (o:List ItS),z=((),(o,(((o.length:Nat):Int),())))/\Part l o/\o.length<=l.length/\m=l.length-o.length/\r=some ((fo l,()),())) ?_ N0 l.length _ _ (by unfold N0;omega) ⟨[],rfl,⟨.nil,(λx h=>by cases h),(λx h=>by cases h),λx hx=>.inr λy hy=>by cases hy⟩,az _,rfl,rfl⟩
 rintro m z r ⟨o,rfl,hp,hol,rfl,rfl⟩ K hK
 rcases aj o.length l.length with h|h
 case inr=>
  have c:¬(o.length:Int)<(l.length:Int):=by omega
  simp only[c,if_false]
  rw[(hp.can (hp.full h)).BG LK]
 have c:(o.length:Int)<(l.length:Int):=by omega
 have ho1:IntKind.wrap .i64 ((o.length:Int)+1)=((o.length+1:Nat):Int):=bJ h (by omega)
 simp only[c,if_true,ho1]
 refine a8 (λj=>((o,()),(lsN l o j,((j:Int),())))) (λ_=>some ((fo l,()),())) l.length (λj hj L hL=>?_) N0 0 (az _) (by unfold N0;omega)
 rcases aj j l.length with hjl|hjl
 ·have cj:(j:Int)<(l.length:Int):=by omega
  have hL:=hL hjl
  have hj1:IntKind.wrap .i64 ((j:Int)+1)=((j+1:Nat):Int):=bJ hjl (by omega)
  have hr:=y0 l o j
  simp only[cj,if_true,aB,aa,List.getElem?_eq_getElem hjl,hj1]
  unfold lsN at hL
  rw[List.getElem?_eq_getElem hjl]at hL
  simp only at hL
  generalize l[j]=x at *
  rw[<-hL]
  clear hL hK
  -- is it YH
  have ab:∀ (T1 T2:Option ((List ItS×Unit)×Unit)),(if((o.length:Nat):Int)=0 then T1 else if 0<=IntKind.wrap .i64 ((o.length:Int)-1)then(match o[(IntKind.wrap .i64 ((o.length:Int)-1)).toNat]? with
   |some y=>if y.1<x.1 then T1 else if 0<=IntKind.wrap .i64 ((o.length:Int)-1)then(match o[(IntKind.wrap .i64 ((o.length:Int)-1)).toNat]? with
    |some y=>if x.1=y.1 then(if 0<=IntKind.wrap .i64 ((o.length:Int)-1)then(match o[(IntKind.wrap .i64 ((o.length:Int)-1)).toNat]? with
     |some y=>if y.2.1<x.2.1 then T1 else T2
     |none=>none)else none)else T2
    |none=>none)else none
   |none=>none)else none)=if pI o x=true then T1 else T2:=λT1 T2=>by
   by_cases ho:o.length=0
   ·have:o=[]:=qU.1 ho
    subst this
    simp[pI]
   ·have hw:IntKind.wrap .i64 ((o.length:Int)-1)=((o.length-1:Nat):Int):=by rw[bp (by omega) (by omega)];omega
    have YI:o.length-1<o.length:=by omega
    unfold pI
    have hz:¬((o.length:Nat):Int)=0:=by omega
    simp only[hz,if_false,hw,aB,aa,if_true,List.getElem?_eq_getElem YI]
    generalize o[o.length-1]=y
    unfold ltB
    by_cases h1:y.1<x.1
    ·simp[h1]
    ·by_cases h2:x.1=y.1
     ·by_cases h3:y.2.1<x.2.1
      ·simp[h2,h3]
      ·simp[h2,h3]
     ·have h2':¬y.1=x.1:=λe=>h2 e.symm
      simp[h1,h2,h2']
  by_cases hn:lsN l o j<0
  ·simp only[hn,if_true,ap,if_false]
   refine(ab _ _).trans ?_
   cases pI o x <;> simp
  ·have hnn:0<=lsN l o j:=by omega
   have hil:(lsN l o j).toNat<l.length:=by omega
   rw[List.getElem?_eq_getElem hil]
   generalize l[(lsN l o j).toNat]=w
   simp only[hn,if_true,ap,if_false,hnn,decide_false,cP]
   refine(ab _ _).trans ?_
   unfold ltB
   cases pI o x
   ·simp
   ·by_cases h1:x.1<w.1
    ·simp[h1]
    ·by_cases h2:x.1=w.1
     ·by_cases h3:x.2.1<w.2.1
      ·simp[h2,h3]
      ·simp[h2,h3]
     ·simp[h1,h2]
 ·have cj:¬(j:Int)<(l.length:Int):=by omega
  have hje:j=l.length:=by omega
  subst hje
  simp only[cj,if_false]
  obtain⟨s1,s2⟩:=BR l o l.length (aw _)
  by_cases hn:lsN l o l.length<0
  ·rw[if_pos hn]
   have fK:∀ x∈l,∃ y∈o,y.1=x.1/\y.2.1=x.2.1:=λx hx=>by
    rcases hp.al x hx with h1|h1
    ·exact h1
    ·obtain⟨k,hk,rfl⟩:=eZ.1 hx
     have:=s1 hn k hk hk
     rw[(vz hp.st).2 h1]at this;cases this
   rw[(hp.can fK).BG LK]
  ·obtain⟨i,hi,e1,_,e3,e4⟩:=s2 (by omega)
   have hpm:=hp.more hb hi e3 (λk hk=>e4 k hk hk)
   simp only[e1,show ¬(i:Int)<0 by omega,if_false,aB,aa,if_true,List.getElem?_eq_getElem hi]
   refine a8 (λj=>((o,((l[i].1,(l[i].2.1,orN l l[i] j)),())),((j:Int),()))) (λ_=>some ((fo l,()),())) l.length (λj hj M hM=>?_) N0 0 (az _) (by unfold N0;omega)
   rcases aj j l.length with hjl|hjl
   ·have cj:(j:Int)<(l.length:Int):=by omega
    have hM:=hM hjl
    have hj1:IntKind.wrap .i64 ((j:Int)+1)=((j+1:Nat):Int):=bJ hjl (by omega)
    have hw:=hb _ (aN hjl)
    simp only[cj,if_true,aB,aa,List.getElem?_eq_getElem hjl,hj1]
    unfold orN at hM
    rw[List.getElem?_eq_getElem hjl]at hM
    simp only at hM
    rw[<-hM]
    unfold eqB
    by_cases h1:l[j].1=l[i].1
    ·by_cases h2:l[j].2.1=l[i].2.1
     ·simp[h1,h2,tN (BS hb l[i] j) hw]
     ·simp[h1,h2]
    ·simp[h1]
   ·have cj:¬(j:Int)<(l.length:Int):=by omega
    have hje:j=l.length:=by omega
    subst hje
    simp only[cj,if_false,aO,bn]
    rw[if_pos (by omega),if_pos (by omega)]
    refine hK (l.length-(o.length+1)) _ _ (by omega) ⟨o++[(l[i].1,(l[i].2.1,orN l l[i] l.length))],?_,hpm,by simp;omega,by simp,rfl⟩
    simp
end
noncomputable section
def di(g:GrS)(q:Int):List SyS×Bool:=
 if 0<=q/\q<(g.2.2.1.length:Int)then(match g.2.2.1[q.toNat]? with
  |some p=>(p.2.2.1,true)
  |none=>([],true))else if q=(g.2.2.1.length:Int)then([(true,g.2.2.2.2)],true)else([],false)
theorem zb(g:GrS)(q:Int):HB N0 (g,(q,()))=some (((di g q).1,((di g q).2,())),()):=by
 delta HB Ld Bd;unfold di
 simp only[aE,bx,decide_eq_true_eq]
 by_cases h1:0<=q
 ·by_cases h2:q<(g.2.2.1.length:Int)
  ·have hl:q.toNat<g.2.2.1.length:=by omega
   simp[h1,h2,List.getElem?_eq_getElem hl]
  ·by_cases h3:q=(g.2.2.1.length:Int)
   ·simp[h3]
   ·simp[h1,h2,h3]
 ·by_cases h3:q=(g.2.2.1.length:Int)
  ·omega
  ·simp[h1,h3]
theorem DE(g:GrS)(q:Int):p53 N0 (g,(q,()))=some (((di g q).1,((di g q).2,())),()):=by
 delta p53 Ld Bd;unfold di
 simp only[aE,bx,decide_eq_true_eq]
 by_cases h1:0<=q
 ·have h1':¬q<0:=by omega
  by_cases h2:q<(g.2.2.1.length:Int)
  ·have hl:q.toNat<g.2.2.1.length:=by omega
   have h3:¬(g.2.2.1.length:Int)<q:=by omega
   have h4:¬q=(g.2.2.1.length:Int):=by omega
   simp[h1,h1',h2,h3,h4,List.getElem?_eq_getElem hl]
  ·by_cases h3:q=(g.2.2.1.length:Int)
   ·simp[h3]
   ·have h4:(g.2.2.1.length:Int)<q:=by omega
    simp[h1,h1',h2,h3,h4]
 ·have h1':q<0:=by omega
  by_cases h3:q=(g.2.2.1.length:Int)
  ·omega
  ·simp[h1,h1',h3]
theorem oS{g:GrS}(hg:Gs g)(q:Int):(di g q).1.length<=20:=by
 unfold di
 split
 ·split
  ·rename_i p hp;exact hg.pb p (List.mem_of_getElem? hp)
  ·simp
 ·split <;> simp
theorem BT{g:GrS}(hg:Gs g)(q:Int):H3 (di g q).1:=by
 unfold di
 split
 ·split
  ·rename_i p hp;exact hg.py p (List.mem_of_getElem? hp)
  ·intro y hy;cases hy
 ·split
  ·intro y hy
   rw[aK.1 hy];exact hg.st
  ·intro y hy;cases hy
theorem vA{g:GrS}{q:Int}(h:(di g q).1≠[]):0<=q/\q<=(g.2.2.1.length:Int):=by
 unfold di at h
 split at h
 ·omega
 ·split at h
  ·omega
  ·exact absurd rfl h
def fQ(g:GrS)(q d:Int):Option SyS:=if d<0 then none else(di g q).1[d.toNat]?
theorem vB{g:GrS}{q d:Int}{y:SyS}(h:fQ g q d=some y):0<=d/\d.toNat<(di g q).1.length:=by
 unfold fQ at h
 split at h
 ·cases h
 ·exact⟨by omega,(List.getElem?_eq_some_iff.1 h).1⟩
theorem SR{g:GrS}(hg:Gs g){q d:Int}{y:SyS}(h:fQ g q d=some y):0<=q/\q<=12/\0<=d/\d<=19:=by
 have h1:=vB h
 have h2:=oS hg q
 have h3:=vA (g:=g) (q:=q) (λe=>by rw[e]at h1;simp at h1)
 have h4:=hg.ps
 omega
theorem DF(g:GrS)(x:ItS):p95 N0 (g,(x,()))=some ((match fQ g x.1 x.2.1 with
 |some y=>(y,(true,()))
 |none=>((false,0),(false,()))),()):=by
 delta p95 Ld Bd;unfold fQ
 simp only[aE,bx,decide_eq_true_eq,zb,aD]
 by_cases h1:x.2.1<0
 ·simp[h1]
 ·cases hb:(di g x.1).2
  ·have:(di g x.1).1=[]:=by
    unfold di at hb |-
    split at hb
    ·split at hb <;> cases hb
    ·split at hb
     ·cases hb
     ·rename_i h2 h3;rw[if_neg h2,if_neg h3]
   simp[h1,this]
  ·by_cases h2:((di g x.1).1.length:Int)<=x.2.1
   ·have:(di g x.1).1.length<=x.2.1.toNat:=by omega
    simp[h1,h2,List.getElem?_eq_none this]
   ·have hl:x.2.1.toNat<(di g x.1).1.length:=by omega
    have h0:0<=x.2.1:=by omega
    simp[h1,h2,h0,List.getElem?_eq_getElem hl]
theorem zd(g:GrS)(x:ItS):HG N0 (g,(x,()))=some ((match fQ g x.1 x.2.1 with
 |some y=>(y,(true,()))
 |none=>((false,0),(false,()))),()):=by
 delta HG Ld Bd;unfold fQ
 simp only[aE,bx,decide_eq_true_eq,DE,aD]
 by_cases h1:x.2.1<0
 ·simp[h1]
 ·by_cases h2:((di g x.1).1.length:Int)<=x.2.1
  ·have:(di g x.1).1.length<=x.2.1.toNat:=by omega
   simp[h1,h2,List.getElem?_eq_none this]
  ·have hl:x.2.1.toNat<(di g x.1).1.length:=by omega
   have h0:0<=x.2.1:=by omega
   simp[h1,h2,h0,List.getElem?_eq_getElem hl]
def qG(g:GrS)(q d:Int):List SyS:=(di g q).1.drop (d.toNat+1)
theorem vC{α:Type}(b:List α)(n:Nat):cn b (n:Int) (b.length:Int)=b.drop n:=by
 unfold cn
 rw[aa,aa,bK (by rw[bD];exact aw _)]
theorem SS{g:GrS}(hg:Gs g){x:ItS}{y:SyS}(h:fQ g x.1 x.2.1=some y):p98 N0 (g,(x,()))=some ((qG g x.1 x.2.1,()),()):=by
 obtain⟨h1,h2⟩:=vB h
 have h3:=oS hg x.1
 delta p98 Bd Wi;unfold qG
 simp only[aE,bx,decide_eq_true_eq,zb,aD]
 have h1':¬x.2.1<0:=by omega
 have hw:IntKind.wrap .i64 (((di g x.1).1.length:Int)-1)=((di g x.1).1.length:Int)-1:=bp (by omega) (by omega)
 have hw2:IntKind.wrap .i64 (x.2.1+1)=((x.2.1.toNat+1:Nat):Int):=by rw[bp (by omega) (by omega)];omega
 simp only[h1',if_false,hw,hw2]
 by_cases xk:((di g x.1).1.length:Int)-1<=x.2.1
 ·have:(di g x.1).1.drop (x.2.1.toNat+1)=[]:=dX (by omega)
  simp[xk,this]
 ·rw[if_neg (by simpa using xk),if_pos ⟨by omega,by omega,by omega⟩,vC]
def stG(g:GrS)(p d q:Int):Prop:=∃ (k:Nat) (pr:PrS),q=(k:Int)/\g.2.2.1[k]?=some pr/\fQ g p d=some (true,pr.1)
def fsG(g:GrS)(p d:Int)(b:Nat):Prop:=Beg g.2.1.length (tE g.2.2.1 g.2.1.length) (tF g.2.2.1 g.2.1.length) (qG g p d) b
def nlG(g:GrS)(p d:Int):Prop:=emR g.2.1.length (tE g.2.2.1 g.2.1.length) (qG g p d)=true
def wG(g:GrS)(p d look:Int):Int:=yT g.2.1.length (tE g.2.2.1 g.2.1.length) (tF g.2.2.1 g.2.1.length) (qG g p d) look
theorem PM{g:GrS}{p d look:Int}(h:U64 look):U64 (wG g p d look):=SL (λi=>Ly i) h
theorem sr{g:GrS}{p d look:Int}{b:Nat}:(wG g p d look).toNat.testBit b=true↔fsG g p d b\/nlG g p d/\look.toNat.testBit b=true:=Lr
def ClG(g:GrS)(l:List ItS):Ato:=Cl (stG g) (fsG g) (nlG g) (At l)
theorem LM{g:GrS}{p d:Int}{b:Nat}(h:fsG g p d b):b<64:=by
 obtain⟨pre,y,post,_,_,h|h⟩:=h
 ·omega
 ·exact Qp (Ly _) h.2.2
theorem DG{g:GrS}(hg:Gs g){p d q:Int}(h:stG g p d q):0<=q/\q<=12:=by
 obtain⟨k,pr,rfl,h1,_⟩:=h
 have:=(List.getElem?_eq_some_iff.1 h1).1
 have:=hg.ps
 omega
structure OkI(l:List ItS):Prop where
 bd:∀ x∈l,je x
 rg:∀ x∈l,0<=x.1/\x.1<=12/\0<=x.2.1/\x.2.1<=20
theorem OkI.inU{l:List ItS}(h:OkI l){p d:Int}{o:Option Nat}(ha:At l p d o):InU 12 p d o:=by
 cases o with
 |none=>
  obtain⟨x,hx,rfl,rfl⟩:=ha
  have:=h.rg x hx
  exact⟨this.1,this.2.1,this.2.2.1,this.2.2.2,λb e=>by cases e⟩
 |some b=>
  obtain⟨x,hx,rfl,rfl,hb⟩:=ha
  have:=h.rg x hx
  exact⟨this.1,this.2.1,this.2.2.1,this.2.2.2,λb' e=>by cases e;exact Qp (h.bd x hx) hb⟩
theorem ClG.inU{g:GrS}(hg:Gs g){l:List ItS}(h:OkI l){p d:Int}{o:Option Nat}(ha:ClG g l p d o):InU 12 p d o:=by
 unfold ClG at ha
 cases ha with
 |base h1=>exact h.inU h1
 |there h1 h2=>
  have:=DG hg h2
  exact⟨this.1,this.2,im _,by omega,λb e=>by cases e⟩
 |first h1 h2 h3=>
  have:=DG hg h2
  exact⟨this.1,this.2,im _,by omega,λb e=>by cases e;exact LM h3⟩
 |look h1 h2 h3=>
  have:=DG hg h2
  have key:∀ {p d:Int} {o:Option Nat},Cl (stG g) (fsG g) (nlG g) (At l) p d o->∀ b,o=some b->b<64:=by
   intro p d o hc
   induction hc with
   |base h1=>exact(h.inU h1).b
   |there _ _ _=>intro b e;cases e
   |first _ _ h3 _=>intro b e;cases e;exact LM h3
   |look _ _ _ ih=>intro b e;cases e;exact ih _ rfl
  exact⟨this.1,this.2,im _,by omega,λb e=>by cases e;exact key h1 _ rfl⟩
theorem ClG.SU{g:GrS}{l:List ItS}{p d:Int}{o:Option Nat}(ha:ClG g l p d o):ClG g l p d none:=by
 unfold ClG at *
 induction ha with
 |base h1=>exact .base h1.there
 |there h1 h2 _=>exact .there h1 h2
 |first h1 h2 _ _=>exact .there h1 h2
 |look _ h2 _ ih=>exact .there ih h2
def LN(A:Ato):List ItS:=by
 classical exact(List.range 13).flatMap λ(p:Nat)=>(List.range 21).flatMap λ(d:Nat)=>if A p d none then [((p:Int),((d:Int),((kf (λb=>decide (A p d (some b))) 64:Nat):Int)))]else []
theorem gU{A:Ato}{x:ItS}:x∈LN A↔∃ p d:Nat,p<13/\d<21/\A p d none/\x.1=(p:Int)/\x.2.1=(d:Int)/\U64 x.2.2/\∀ b,x.2.2.toNat.testBit b=true↔b<64/\A p d (some b):=by
 classical
 unfold LN
 simp only[dK,cr]
 constructor
 ·rintro⟨p,hp,d,hd,hx⟩
  split at hx
  ·rename_i ha
   rw[aK.1 hx]
   refine⟨p,d,hp,hd,ha,rfl,rfl,pH _,λb=>?_⟩
   show(Int.toNat ((kf _ 64:Nat):Int)).testBit b=true↔_
   rw[aa,iZ]
   simp
  ·cases hx
 ·rintro⟨p,d,hp,hd,ha,e1,e2,hU,hb⟩
  refine⟨p,hp,d,hd,?_⟩
  rw[if_pos ha]
  refine aK.2 ?_
  obtain⟨x1,x2,x3⟩:=x
  simp only at e1 e2 hU hb
  rw[e1,e2]
  congr 2
  refine BH hU (pH _) λb Zc=>?_
  rw[aa,iZ,cI,hb]
  simp
theorem LO{A:Ato}(h1:∀ p d o,A p d o->InU 12 p d o)(h2:∀ p d o,A p d o->A p d none):Can A (LN A):=by
 refine⟨?_,λx hx=>?_,λp d o=>?_⟩
 ·have hr:∀ n,(List.range n).Pairwise (λa b=>a<b):=λn=>List.pairwise_lt_range
  classical
  unfold LN
  refine List.pairwise_flatMap.2 ⟨λp _=>List.pairwise_flatMap.2 ⟨λd _=>?_,?_⟩,?_⟩
  ·split
   ·exact nW _ _
   ·exact .nil
  ·refine List.Pairwise.imp ?_ (hr 21)
   intro a b hab x hx y hy
   split at hx
   ·split at hy
    ·rw[aK.1 hx,aK.1 hy]
     exact .inr ⟨rfl,by show(a:Int)<(b:Int);omega⟩
    ·cases hy
   ·cases hx
  ·refine List.Pairwise.imp ?_ (hr 13)
   intro a b hab x hx y hy
   obtain⟨d,_,hx⟩:=dK.1 hx
   obtain⟨d',_,hy⟩:=dK.1 hy
   split at hx
   ·split at hy
    ·rw[aK.1 hx,aK.1 hy]
     exact .inl (by show(a:Int)<(b:Int);omega)
    ·cases hy
   ·cases hx
 ·obtain⟨p,d,_,_,_,_,_,h,_⟩:=gU.1 hx
  exact h
 ·cases o with
  |none=>
   constructor
   ·rintro⟨x,hx,rfl,rfl⟩
    obtain⟨p,d,_,_,ha,e1,e2,_⟩:=gU.1 hx
    rw[e1,e2];exact ha
   ·intro ha
    have hu:=h1 _ _ _ ha
    have u1:=hu.p0
    have u2:=hu.p1
    have u3:=hu.d0
    have u4:=hu.d1
    obtain⟨P,rfl⟩:∃ P:Nat,p=(P:Int):=⟨p.toNat,by omega⟩
    obtain⟨D,rfl⟩:∃ D:Nat,d=(D:Int):=⟨d.toNat,by omega⟩
    classical
    refine⟨((P:Int),((D:Int),((kf (λb=>decide (A P D (some b))) 64:Nat):Int))),gU.2 ⟨P,D,by omega,by omega,ha,rfl,rfl,pH _,λb=>?_⟩,rfl,rfl⟩
    show(Int.toNat ((kf _ 64:Nat):Int)).testBit b=true↔_
    rw[aa,iZ]
    simp
  |some b=>
   constructor
   ·rintro⟨x,hx,rfl,rfl,hb⟩
    obtain⟨p,d,_,_,ha,e1,e2,_,BU⟩:=gU.1 hx
    rw[e1,e2];exact((BU b).1 hb).2
   ·intro ha
    have hu:=h1 _ _ _ ha
    have u1:=hu.p0
    have u2:=hu.p1
    have u3:=hu.d0
    have u4:=hu.d1
    have u5:=hu.b b rfl
    obtain⟨P,rfl⟩:∃ P:Nat,p=(P:Int):=⟨p.toNat,by omega⟩
    obtain⟨D,rfl⟩:∃ D:Nat,d=(D:Int):=⟨d.toNat,by omega⟩
    classical
    have BU:∀ b,(Int.toNat ((kf (λb=>decide (A P D (some b))) 64:Nat):Int)).testBit b=true↔b<64/\A P D (some b):=λb=>by
     rw[aa,iZ]
     simp
    exact⟨((P:Int),((D:Int),((kf (λb=>decide (A P D (some b))) 64:Nat):Int))),gU.2 ⟨P,D,by omega,by omega,h2 _ _ _ ha,rfl,rfl,pH _,BU⟩,rfl,rfl,(BU b).2 ⟨u5,ha⟩⟩
def eN(g:GrS)(l:List ItS):List ItS:=LN (ClG g l)
theorem fA{g:GrS}(hg:Gs g){l:List ItS}(h:OkI l):Can (ClG g l) (eN g l):=LO (λ_ _ _ ha=>ClG.inU hg h ha) (λ_ _ _ ha=>ha.SU)
theorem LP{A:Ato}{l:List ItS}(h:Can A l)(hU:∀ p d o,A p d o->InU 12 p d o):OkI l:=
 ⟨h.bd,λx hx=>by
  have:=hU _ _ _ ((h.at' x.1 x.2.1 none).1 ⟨x,hx,rfl,rfl⟩)
  exact⟨this.p0,this.p1,this.d0,this.d1⟩⟩
theorem sw{g:GrS}(hg:Gs g){l:List ItS}(h:OkI l):OkI (eN g l):=LP (fA hg h) λ_ _ _ ha=>ClG.inU hg h ha
theorem lB{A:Ato}{l:List ItS}(h:Can A l)(hU:∀ p d o,A p d o->InU 12 p d o):l.length<=273:=by
 have:=PB h hU
 omega
end
noncomputable section
theorem LQ{a b:List ItS}(hl:a.length<=1000000):p89 N0 (a,(b,()))=some ((decide (a=b),()),()):=by
 delta p89 Ld Bd Wi
 simp only[aE,bx,decide_eq_true_eq]
 by_cases hlen:(a.length:Int)=(b.length:Int)
 ·have YZ:a.length=b.length:=by omega
  simp only[hlen,decide_true,ay,ap,if_false]
  rw[<-hlen]
  refine a8 (λj=>((),((j:Int),()))) (λj=>some ((decide (a.drop j=b.drop j),()),())) a.length (λj hj K hK=>?_) N0 0 (az _) (by unfold N0;omega)
  rcases aj j a.length with h|h
  ·have c:(j:Int)<(a.length:Int):=by omega
   have hK:=hK h
   have hb:j<b.length:=by omega
   have hj1:IntKind.wrap .i64 ((j:Int)+1)=((j+1:Nat):Int):=bJ h hl
   simp only[c,if_true,aB,aa,List.getElem?_eq_getElem h,List.getElem?_eq_getElem hb,hj1,cq h,cq hb]
   rw[hK]
   generalize a[j]=x
   generalize b[j]=y
   obtain⟨x1,x2,x3⟩:=x
   obtain⟨y1,y2,y3⟩:=y
   by_cases h1:x1=y1
   ·by_cases h2:x2=y2
    ·by_cases h3:x3=y3
     ·simp[h1,h2,h3]
     ·simp[h1,h2,h3]
    ·simp[h1,h2]
   ·simp[h1]
  ·have c:¬(j:Int)<(a.length:Int):=by omega
   rw[dX h,dX (by omega)]
   simp only[c,if_false,decide_true]
 ·have:¬a=b:=λe=>hlen (by rw[e])
  simp[hlen,this]
def mF(g:GrS)(s w:Int)(j:Nat):List ItS:=(List.range j).flatMap λk=>match g.2.2.1[k]? with
 |some pr=>if pr.1=s then [((k:Int),((0:Int),w))]else []
 |none=>[]
def DH(g:GrS)(x:ItS):List ItS:=match fQ g x.1 x.2.1 with
 |some y=>if y.1=true then mF g y.2 (wG g x.1 x.2.1 x.2.2) g.2.2.1.length else []
 |none=>[]
def kg(g:GrS)(c:List ItS):List ItS:=c.flatMap (DH g)
theorem vD(g:GrS)(s w:Int)(j:Nat):mF g s w (j+1)=mF g s w j++(match g.2.2.1[j]? with
 |some pr=>if pr.1=s then [((j:Int),((0:Int),w))]else []
 |none=>[]):=by
 unfold mF
 rw[dY,gw]
 simp only[kL,rh,bV]
theorem sx(g:GrS)(s w:Int):∀ j,(mF g s w j).length<=j
 |0=>by simp[mF]
 |j+1=>by
  have:=sx g s w j
  rw[vD,ak]
  split
  ·split
   ·simp;omega
   ·simp;omega
  ·simp;omega
def BV{α:Type}(l m:List α):List α:=match m with
 |[]=>l
 |x::m=>l++x::m
theorem oT{α:Type}(l m:List α):BV l m=l++m:=by
 cases m
 ·exact(bV l).symm
 ·rfl
theorem H7{g:GrS}{s w:Int}{j:Nat}{y:ItS}:y∈mF g s w j↔∃ k pr,k<j/\g.2.2.1[k]?=some pr/\pr.1=s/\y=((k:Int),((0:Int),w)):=by
 unfold mF
 simp only[dK,cr]
 constructor
 ·rintro⟨k,hk,hy⟩
  cases hp:g.2.2.1[k]? with
  |none=>rw[hp]at hy;cases hy
  |some pr=>
   rw[hp]at hy
   simp only at hy
   split at hy
   ·rename_i e;exact⟨k,pr,hk,hp,e,aK.1 hy⟩
   ·cases hy
 ·rintro⟨k,pr,hk,hp,e,rfl⟩
  refine⟨k,hk,?_⟩
  rw[hp]
  simp[e]
theorem vE{g:GrS}{x y:ItS}:y∈DH g x↔∃ q,stG g x.1 x.2.1 q/\y=(q,((0:Int),wG g x.1 x.2.1 x.2.2)):=by
 unfold DH stG
 cases hn:fQ g x.1 x.2.1 with
 |none=>
  constructor
  ·intro h;cases h
  ·rintro⟨q,⟨k,pr,_,_,h⟩,_⟩;cases h
 |some z=>
  simp only
  by_cases hz:z.1=true
  ·rw[if_pos hz,H7]
   constructor
   ·rintro⟨k,pr,_,h1,h2,h3⟩
    refine⟨(k:Int),⟨k,pr,rfl,h1,?_⟩,h3⟩
    obtain⟨z1,z2⟩:=z
    simp only at hz h2
    rw[hz,h2]
   ·rintro⟨q,⟨k,pr,rfl,h1,h2⟩,h3⟩
    refine⟨k,pr,(List.getElem?_eq_some_iff.1 h1).1,h1,?_,h3⟩
    cases h2;rfl
  ·rw[if_neg hz]
   constructor
   ·intro h;cases h
   ·rintro⟨q,⟨k,pr,_,_,h⟩,_⟩
    cases h
    exact absurd rfl hz
theorem LR(g:GrS)(x:ItS):(DH g x).length<=g.2.2.1.length:=by
 unfold DH
 split
 ·split
  ·exact sx _ _ _ _
  ·simp
 ·simp
theorem vF{g:GrS}(hg:Gs g):∀ c:List ItS,(kg g c).length<=c.length*12
 |[]=>by simp[kg]
 |x::c=>by
  have h1:=vF hg c
  have h2:=LR g x
  have h3:=hg.ps
  unfold kg at *
  rw[kL,ak,aO]
  omega
theorem PN{g:GrS}{c:List ItS}{p d:Int}{o:Option Nat}:At (kg g c) p d o↔Stp (stG g) (fsG g) (nlG g) (At c) p d o:=by
 have hm:∀ y,y∈kg g c↔∃ x∈c,∃ q,stG g x.1 x.2.1 q/\y=(q,((0:Int),wG g x.1 x.2.1 x.2.2)):=λy=>by
  unfold kg
  rw[dK]
  constructor
  ·rintro⟨x,hx,h⟩;exact⟨x,hx,vE.1 h⟩
  ·rintro⟨x,hx,h⟩;exact⟨x,hx,vE.2 h⟩
 cases o with
 |none=>
  constructor
  ·rintro⟨y,hy,rfl,rfl⟩
   obtain⟨x,hx,q,h1,rfl⟩:=(hm y).1 hy
   exact⟨rfl,x.1,x.2.1,⟨x,hx,rfl,rfl⟩,h1⟩
  ·rintro⟨rfl,p',d',⟨x,hx,rfl,rfl⟩,h1⟩
   exact⟨_,(hm _).2 ⟨x,hx,p,h1,rfl⟩,rfl,rfl⟩
 |some b=>
  constructor
  ·rintro⟨y,hy,rfl,rfl,hb⟩
   obtain⟨x,hx,q,h1,rfl⟩:=(hm y).1 hy
   refine⟨rfl,x.1,x.2.1,h1,?_⟩
   rcases sr.1 hb with h|h
   ·exact .inl ⟨⟨x,hx,rfl,rfl⟩,h⟩
   ·exact .inr ⟨⟨x,hx,rfl,rfl,h.2⟩,h.1⟩
  ·rintro⟨rfl,p',d',h1,h|h⟩
   ·obtain⟨⟨x,hx,rfl,rfl⟩,hf⟩:=h
    exact⟨_,(hm _).2 ⟨x,hx,p,h1,rfl⟩,rfl,rfl,sr.2 (.inl hf)⟩
   ·obtain⟨⟨x,hx,rfl,rfl,hb⟩,hn⟩:=h
    exact⟨_,(hm _).2 ⟨x,hx,p,h1,rfl⟩,rfl,rfl,sr.2 (.inr ⟨hn,hb⟩)⟩
theorem PO{g:GrS}{c:List ItS}(h:∀ x∈c,je x):∀ y∈kg g c,je y:=λy hy=>by
 unfold kg at hy
 obtain⟨x,hx,hy⟩:=dK.1 hy
 obtain⟨q,_,rfl⟩:=vE.1 hy
 exact PM (h x hx)
set_option maxHeartbeats 2000000 in
theorem LS{g:GrS}(hg:Gs g){l:List ItS}(hl:OkI l)(hll:l.length<=100000):p85 N0 (g,(l,()))=some ((eN g l,()),()):=by
 have hps:=hg.ps
 delta p85 Ld Ap Bd Wi
 simp only[Fq hg,PI hg,aD,za hl.bd (by omega:l.length<=1000000)]
 simp only[aE,bx,decide_eq_true_eq]
 have FB:=ja hl.bd
 have DI:=fA hg hl
 have SV:∀ p d o,ClG g l p d o->InU 12 p d o:=λ_ _ _ ha=>ClG.inU hg hl ha
 refine aZ (λm z r=>∃ (c:List ItS),z=((),(c,()))/\Can (At c) c/\(∀ p d o,At l p d o->At c p d o)/\(∀ p d o,At c p d o->ClG g l p d o)/\m=gT (wv 12) (onU (At c))/\r=some ((eN g l,()),())) ?_ N0 (gT (wv 12) (onU (At (fo l)))) _ _ (by
  have:=iX (wv 12) (onU (At (fo l)))
  rw[Lo]at this
  unfold N0;omega) ⟨fo l,rfl,⟨FB.st,FB.bd,λ_ _ _=>jD⟩,λp d o h=>(FB.at' p d o).2 h,λp d o h=>.base ((FB.at' p d o).1 h),rfl,rfl⟩
 rintro m z r ⟨c,rfl,hc,hlc,hcc,rfl,rfl⟩ K hK
 have hcl:c.length<=273:=lB hc λp d o h=>SV _ _ _ (hcc _ _ _ h)
 simp only[bn,cm]
 rw[if_pos (by omega),if_pos (by omega)]
 have hal:=vF hg c
 refine a8 (λj=>((),(BV c (kg g (c.take j)),((j:Int),())))) (λ_=>some ((eN g l,()),())) c.length (λj hj L hL=>?_) N0 0 (az _) (by unfold N0;omega)
 simp only[oT]at hL |-
 rcases aj j c.length with hjl|hjl
 ·have cj:(j:Int)<(c.length:Int):=by omega
  have hL:=hL hjl
  have hj1:IntKind.wrap .i64 ((j:Int)+1)=((j+1:Nat):Int):=bJ hjl (by omega)
  have hx:=hc.bd _ (aN hjl)
  have YJ:=vF hg (c.take j)
  rw[aL]at YJ
  have hsn:kg g (c.take (j+1))=kg g (c.take j)++DH g c[j]:=by
   unfold kg
   rw[cJ _ _ hjl,gw]
   simp
  rw[hsn,<-aT]at hL
  simp only[cj,if_true,aB,aa,List.getElem?_eq_getElem hjl,hj1,zd,aD]
  have hol:(c++kg g (c.take j)).length<=10000:=by rw[ak];omega
  generalize c++kg g (c.take j)=out at *
  generalize c[j]=x at *
  rw[<-hL]
  unfold DH
  cases hn:fQ g x.1 x.2.1 with
  |none=>simp
  |some y=>
   cases hy:y.1
   ·simp[hy]
   ·obtain⟨n1,n2⟩:=vB hn
    have n3:=oS hg x.1
    have hw2:IntKind.wrap .i64 (x.2.1+1)=((x.2.1.toNat+1:Nat):Int):=by rw[bp (by omega) (by omega)];omega
    simp only[ay,ap,if_false,hy,DE,aD,hw2,if_true]
    rw[if_pos ⟨by omega,by omega,by omega⟩,vC]
    have e55:=PE (n:=g.2.1.length) (f:=tE g.2.2.1 g.2.1.length) (F:=tF g.2.2.1 g.2.1.length) (λi=>Ly i) (body:=qG g x.1 x.2.1) (λz hz=>BT hg x.1 z (hC hz)) (by unfold qG;rw[bD];unfold maxLen;omega) (look:=x.2.2) hx
    have YK:Kq N0 (bsS g.2.1.length (tE g.2.2.1 g.2.1.length),(inN g.2.1.length (tF g.2.2.1 g.2.1.length),((di g x.1).1.drop (x.2.1.toNat+1),(x.2.2,()))))=some ((wG g x.1 x.2.1 x.2.2,()),()):=e55
    rw[YK]
    simp only[aD]
    generalize wG g x.1 x.2.1 x.2.2=w
    refine a8 (λi=>((),(BV out (mF g y.2 w i),((i:Int),())))) (λ_=>L ((),(out++mF g y.2 w g.2.2.1.length,(((j+1:Nat):Int),())))) g.2.2.1.length (λi hi M hM=>?_) N0 0 (az _) (by unfold N0;omega)
    simp only[oT]at hM |-
    rcases aj i g.2.2.1.length with hil|hil
    ·have ci:(i:Int)<(g.2.2.1.length:Int):=by omega
     have hM:=hM hil
     have hi1:IntKind.wrap .i64 ((i:Int)+1)=((i+1:Nat):Int):=bJ hil (by omega)
     have hnl:=sx g y.2 w i
     rw[vD,List.getElem?_eq_getElem hil,<-aT]at hM
     simp only[ci,if_true,aB,aa,List.getElem?_eq_getElem hil,hi1]
     have Zd:(out++mF g y.2 w i).length<=20000:=by rw[ak];omega
     generalize out++mF g y.2 w i=kE at *
     rw[<-hM]
     by_cases he:g.2.2.1[i].1=y.2
     ·simp only[he,if_true,aO,bn]
      rw[if_pos (by omega),if_pos (by omega)]
     ·simp only[he,if_false,bV]
    ·have ci:¬(i:Int)<(g.2.2.1.length:Int):=by omega
     have e:i=g.2.2.1.length:=by omega
     subst e
     simp only[ci,if_false]
 ·have cj:¬(j:Int)<(c.length:Int):=by omega
  rw[bK hjl]
  have hbd:∀ x∈c++kg g c,je x:=λx hx=>by
   rcases au.1 hx with hx|hx
   ·exact hc.bd x hx
   ·exact PO hc.bd x hx
  have hcn:=ja hbd
  have hat:∀ p d o,At (fo (c++kg g c)) p d o↔At c p d o\/Stp (stG g) (fsG g) (nlG g) (At c) p d o:=λp d o=>by
   rw[hcn.at',jf,PN]
  have SX:∀ p d o,At (fo (c++kg g c)) p d o->ClG g l p d o:=λp d o h=>by
   rcases(hat p d o).1 h with h|h
   ·exact hcc _ _ _ h
   ·exact Cl.stp (h.mono hcc)
  have hnl:(fo (c++kg g c)).length<=273:=lB (A:=At (fo (c++kg g c))) ⟨hcn.st,hcn.bd,λ_ _ _=>jD⟩ λp d o h=>SV _ _ _ (SX _ _ _ h)
  have e53:=za hbd (by rw[ak];omega)
  simp only[cj,if_false,e53,aD,LQ (by omega:(fo (c++kg g c)).length<=1000000),decide_eq_true_eq]
  by_cases he:fo (c++kg g c)=c
  ·rw[if_pos he]
   have LU:∀ p d o,At c p d o↔ClG g l p d o:=λp d o=>⟨hcc p d o,λh=>Cl.least hlc (λp d o hs=>by
    rw[<-he];exact(hat p d o).2 (.inr hs)) h⟩
   rw[(hc.congr LU).BG DI]
  ·rw[if_neg he]
   refine hK (gT (wv 12) (onU (At (fo (c++kg g c))))) _ _ ?_ ⟨_,rfl,⟨hcn.st,hcn.bd,λ_ _ _=>jD⟩,λp d o h=>(hat p d o).2 (.inl (hlc _ _ _ h)),SX,rfl,rfl⟩
   exact Lp hc ⟨hcn.st,hcn.bd,λ_ _ _=>jD⟩ (λp d o h=>(hat p d o).2 (.inl h)) (λp d o h=>SV _ _ _ (SX _ _ _ h)) (λe=>he e.symm)
end
noncomputable section
def nG(g:GrS)(s:Int)(n:Nat):Bool:=match g.2.2.1[n]? with
 |some pr=>decide (pr.1=s)
 |none=>false
def T1(g:GrS)(s:Int)(T:Nat->Bool)(j:Nat):Nat->Bool:=λn=>T n||(decide (n<j)&&nG g s n)
def L1(g:GrS)(s w:Int)(L:Nat->Int)(j:Nat):Nat->Int:=λn=>if(decide (n<j)&&nG g s n)=true then orI (L n) w else L n
def iI(g:GrS)(s w:Int)(T:Nat->Bool)(L:Nat->Int)(n:Nat):Bool:=nG g s n&&!(T n&&decide (orI (L n) w=L n))
def N1(g:GrS)(s w:Int)(T:Nat->Bool)(L:Nat->Int)(j:Nat):List ItS:=(List.range j).flatMap λn=>if iI g s w T L n=true then [((n:Int),((0:Int),orI (L n) w))]else []
variable {g:GrS} {s w:Int} {T:Nat->Bool} {L:Nat->Int}
theorem ze(j:Nat):N1 g s w T L (j+1)=N1 g s w T L j++(if iI g s w T L j=true then [((j:Int),((0:Int),orI (L j) w))]else []):=by
 unfold N1
 rw[dY,gw]
 simp
theorem SY(j:Nat):(N1 g s w T L j).length<=j:=by
 induction j with
 |zero=>simp[N1]
 |succ j ih=>
  rw[ze,ak]
  split
  ·simp;omega
  ·simp;omega
theorem VM:T1 g s T 0=T:=by funext n;simp[T1]
theorem VN:L1 g s w L 0=L:=by funext n;simp[L1]
theorem zf{j:Nat}(h:iI g s w T L j=false):T1 g s T (j+1)=T1 g s T j:=by
 funext n
 unfold T1
 by_cases e:n=j
 ·subst e
  unfold iI at h
  cases hh:nG g s n
  ·simp
  ·rw[hh]at h
   cases ht:T n
   ·rw[ht]at h;cases h
   ·simp
 ·by_cases h2:n<j
  ·simp[h2,e7 h2]
  ·have:¬n<j+1:=by omega
   simp[h2,this]
theorem zg{j:Nat}(h:iI g s w T L j=false):L1 g s w L (j+1)=L1 g s w L j:=by
 funext n
 unfold L1
 by_cases e:n=j
 ·subst e
  unfold iI at h
  cases hh:nG g s n
  ·simp
  ·rw[hh]at h
   have:orI (L n) w=L n:=(by simpa using h:T n=true/\orI (L n) w=L n).2
   simp_all
 ·by_cases h2:n<j
  ·simp[h2,e7 h2]
  ·have:¬n<j+1:=by omega
   simp[h2,this]
theorem DJ{j:Nat}(h:iI g s w T L j=true):T1 g s T (j+1)=c7 (T1 g s T j) j true:=by
 funext n
 unfold T1 c7
 by_cases e:n=j
 ·subst e
  unfold iI at h
  rw[ag]at h
  simp[h.1]
 ·rw[if_neg e]
  by_cases h2:n<j
  ·simp[h2,e7 h2]
  ·have:¬n<j+1:=by omega
   simp[h2,this]
theorem DK{j:Nat}(h:iI g s w T L j=true):L1 g s w L (j+1)=c7 (L1 g s w L j) j (orI (L j) w):=by
 funext n
 unfold L1 c7
 by_cases e:n=j
 ·subst e
  unfold iI at h
  rw[ag]at h
  simp[h.1]
 ·rw[if_neg e]
  by_cases h2:n<j
  ·simp[h2,e7 h2]
  ·have:¬n<j+1:=by omega
   simp[h2,this]
theorem Qv(j:Nat):T1 g s T j j=T j:=by simp[T1]
theorem LV(j:Nat):L1 g s w L j j=L j:=by simp[L1]
theorem YL(hU:j4 L)(hw:U64 w)(j:Nat):j4 (L1 g s w L j):=λn=>by
 unfold L1;split
 ·exact mE (hU n) hw
 ·exact hU n
set_option maxHeartbeats 1000000 in
theorem SZ(hg:Gs g)(hU:j4 L)(hw:U64 w)(t:List Bool×List Int)(o:List ItS)(ho:o.length<=200000):
 p96 N0 ((g,(t,(bsS g.2.2.1.length T,(inN g.2.2.1.length L,o)))),(s,(w,())))=
  some ((),(((g,(t,(bsS g.2.2.1.length (T1 g s T g.2.2.1.length),(inN g.2.2.1.length (L1 g s w L g.2.2.1.length),o++N1 g s w T L g.2.2.1.length)))),()))):=by
 have hps:=hg.ps
 delta p96 Ld Ap Bd Wi
 simp only[aE,bx,decide_eq_true_eq]
 refine(congrArg (λz=>aC _ N0 z) (?_:_=(((g,(t,(bsS g.2.2.1.length (T1 g s T 0),(inN g.2.2.1.length (L1 g s w L 0),BV o (N1 g s w T L 0))))),()),(((0:Nat):Int),())))).trans
  ((a8 (λj=>(((g,(t,(bsS g.2.2.1.length (T1 g s T j),(inN g.2.2.1.length (L1 g s w L j),BV o (N1 g s w T L j))))),()),((j:Int),()))) (λ_=>some ((),(((g,(t,(bsS g.2.2.1.length (T1 g s T g.2.2.1.length),(inN g.2.2.1.length (L1 g s w L g.2.2.1.length),BV o (N1 g s w T L g.2.2.1.length))))),())))) g.2.2.1.length (λj hj K hK=>?_) N0 0 (az _) (by unfold N0;omega)).trans (by rw[oT]))
 ·rw[VM,VN];rfl
 ·simp only[oT]at hK |-
  rcases aj j g.2.2.1.length with h|h
  ·have c:(j:Int)<(g.2.2.1.length:Int):=by omega
   have hK:=hK h
   have hj1:IntKind.wrap .i64 ((j:Int)+1)=((j+1:Nat):Int):=bJ h (by omega)
   have hh:nG g s j=decide (g.2.2.1[j].1=s):=by unfold nG;rw[List.getElem?_eq_getElem h]
   have hnl:=SY (g:=g) (s:=s) (w:=w) (T:=T) (L:=L) j
   simp only[c,if_true,aB,aa,List.getElem?_eq_getElem h,hj1]
   rw[ze]at hK
   by_cases he:g.2.2.1[j].1=s
   ·have hh':nG g s j=true:=by rw[hh];simp[he]
    simp only[he,decide_true,ay,ap,if_false,jo _ h,kt _ h,Qv,LV,mf (hU j) hw]
    cases hT:T j
    ·have hn:iI g s w T L j=true:=by unfold iI;rw[hh',hT];rfl
     rw[if_pos hn,DJ hn,DK hn,<-aT]at hK
     simp only[ap,if_false,tO,oQ,aO,bn,ak]
     rw[kt _ h,show c7 (L1 g s w L j) j (orI (L j) w) j=orI (L j) w from if_pos rfl]
     dsimp only
     rw[if_pos (by omega),if_pos (by omega)]
     exact hK
    ·simp only[if_true,decide_eq_true_eq]
     by_cases hq:orI (L j) w=L j
     ·have hn:iI g s w T L j=false:=by unfold iI;rw[hh',hT];simp[hq]
      rw[if_neg (by rw[hn];exact jw),zf hn,zg hn,bV]at hK
      simp only[hq,if_true]
      exact hK
     ·have hn:iI g s w T L j=true:=by unfold iI;rw[hh',hT];simp[hq]
      rw[if_pos hn,DJ hn,DK hn,<-aT]at hK
      simp only[hq,if_false,tO,oQ,aO,bn,ak]
      rw[kt _ h,show c7 (L1 g s w L j) j (orI (L j) w) j=orI (L j) w from if_pos rfl]
      dsimp only
      rw[if_pos (by omega),if_pos (by omega)]
      exact hK
   ·have hh':nG g s j=false:=by rw[hh];simp[he]
    have hn:iI g s w T L j=false:=by unfold iI;rw[hh'];rfl
    rw[if_neg (by rw[hn];exact jw),zf hn,zg hn,bV]at hK
    simp only[he,decide_false,aH,if_true]
    exact hK
  ·have c:¬(j:Int)<(g.2.2.1.length:Int):=by omega
   have e:j=g.2.2.1.length:=by omega
   subst e
   simp only[c,if_false]
end
noncomputable section
theorem LW{l:List ItS}(hl:l.length<=1000000):p94 N0 (l,())=some ((l,()),()):=by
 delta p94 Ap
 simp only[bn,cm,bx]
 unfold M8
 cases l with
 |nil=>exact I3 _
 |cons x l=>
  simp only[List.isEmpty_cons,ap,if_false,cond_false]
  rw[if_pos (by omega),if_pos (by omega)]
variable {g:GrS} {s w:Int} {T:Nat->Bool} {L:Nat->Int}
def nH(k:Nat)(T:Nat->Bool)(L:Nat->Int):Nat:=nF k L+gT (List.range k) λi=>T i=true
theorem BW(k:Nat)(T:Nat->Bool)(L:Nat->Int):nH k T L<=k*65:=by
 have h1:=iX (Dy k) λu=>(L u.1).toNat.testBit u.2=true
 have h2:=iX (List.range k) λi=>T i=true
 rw[vt]at h1
 rw[ia]at h2
 unfold nH nF
 omega
theorem FC(hU:j4 L)(hw:U64 w):∀ j,j<=g.2.2.1.length->(N1 g s w T L j).length+nH g.2.2.1.length (T1 g s T j) (L1 g s w L j)<=nH g.2.2.1.length T L
 |0,_=>by rw[VM,VN];simp[N1]
 |j+1,hj=>by
  have ih:=FC hU hw j (by omega)
  rw[ze,ak]
  cases hn:iI g s w T L j
  ·rw[if_neg (by simp),zf hn,zg hn]
   simpa using ih
  ·rw[if_pos rfl,DJ hn,DK hn]
   have hle:leF (L1 g s w L j) (c7 (L1 g s w L j) j (orI (L j) w)):=λi b hb=>by
    unfold c7
    split
    ·rename_i e
     subst e
     rw[LV]at hb
     rw[dG,hb,gz]
    ·exact hb
   have VO:∀ i,T1 g s T j i=true->c7 (T1 g s T j) j true i=true:=λi hi=>by
    unfold c7
    split
    ·rfl
    ·exact hi
   have hlt:nH g.2.2.1.length (c7 (T1 g s T j) j true) (c7 (L1 g s w L j) j (orI (L j) w))<nH g.2.2.1.length (T1 g s T j) (L1 g s w L j):=by
    have h1:nF g.2.2.1.length (c7 (L1 g s w L j) j (orI (L j) w))<=nF g.2.2.1.length (L1 g s w L j):=qB λu _ hu=>hle _ _ hu
    have h2:gT (List.range g.2.2.1.length) (λi=>c7 (T1 g s T j) j true i=true)<=gT (List.range g.2.2.1.length) (λi=>T1 g s T j i=true):=qB λu _ hu=>VO _ hu
    unfold nH
    cases hT:T j
    ·have:=oO (U:=List.range g.2.2.1.length) (P:=λi=>T1 g s T j i=true) (Q:=λi=>c7 (T1 g s T j) j true i=true) (λu _ hu=>VO _ hu) (cr.2 (by omega:j<g.2.2.1.length)) (by show ¬T1 g s T j j=true;rw[Qv,hT];exact jw) (by show c7 (T1 g s T j) j true j=true;unfold c7;rw[if_pos rfl])
     omega
    ·have hne:orI (L j) w≠L j:=by
      unfold iI at hn
      rw[hT]at hn
      intro e
      simp[e]at hn
     obtain⟨b,hb,hb1,hb2⟩:=LB hw (hU j) (by rw[qF];exact hne)
     have:=vu (n:=g.2.2.1.length) hle (i:=j) (b:=b) (by omega) hb (by rw[LV];exact hb1) (by unfold c7;rw[if_pos rfl,qF];exact hb2)
     omega
   simp only[aO,bn]
   omega
theorem LX{j:Nat}{y:ItS}:y∈N1 g s w T L j↔∃ n,n<j/\iI g s w T L n=true/\y=((n:Int),((0:Int),orI (L n) w)):=by
 unfold N1
 simp only[dK,cr]
 constructor
 ·rintro⟨n,hn,hy⟩
  split at hy
  ·rename_i h;exact⟨n,hn,h,aK.1 hy⟩
  ·cases hy
 ·rintro⟨n,hn,h,rfl⟩
  exact⟨n,hn,by rw[if_pos h];exact aK.2 rfl⟩
def qH(g:GrS)(T:Nat->Bool)(L:Nat->Int)(x:ItS):Prop:=∀ q,stG g x.1 x.2.1 q->T q.toNat=true/\∀ b,(wG g x.1 x.2.1 x.2.2).toNat.testBit b=true->(L q.toNat).toNat.testBit b=true
theorem qH.mono{T':Nat->Bool}{L':Nat->Int}(hT:∀ i,T i=true->T' i=true)(hL:leF L L'){x:ItS}(h:qH g T L x):qH g T' L' x:=λq hq=>⟨hT _ (h q hq).1,λb hb=>hL _ _ ((h q hq).2 b hb)⟩
theorem FD{j:Nat}(i:Nat)(h:T i=true):T1 g s T j i=true:=by unfold T1;rw[h,gz]
theorem FE{j:Nat}:leF L (L1 g s w L j):=λi b hb=>by
 unfold L1;split
 ·rw[dG,hb,gz]
 ·exact hb
theorem FF{n:Nat}:nG g s n=true↔∃ pr,g.2.2.1[n]?=some pr/\pr.1=s:=by
 unfold nG
 cases hp:g.2.2.1[n]? with
 |none=>simp
 |some pr=>simp
structure zh(g:GrS)(l:List ItS)(T:Nat->Bool)(L:Nat->Int)(o:List ItS):Prop where
 U:j4 L
 t:∀ n:Nat,T n=true->ClG g l (n:Int) 0 none
 b:∀ (n:Nat) b,(L n).toNat.testBit b=true->ClG g l (n:Int) 0 (some b)
 op:∀ x∈o,je x/\ClG g l x.1 x.2.1 none/\∀ b,x.2.2.toNat.testBit b=true->ClG g l x.1 x.2.1 (some b)
 p1:∀ x∈l,x∈o\/qH g T L x
 p2:∀ n:Nat,T n=true->((n:Int),((0:Int),L n))∈o\/qH g T L ((n:Int),((0:Int),L n))
theorem zh.skip{l o:List ItS}{x:ItS}(h:zh g l T L (x::o))(hd:qH g T L x):zh g l T L o where
 U:=h.U
 t:=h.t
 b:=h.b
 op:=λy hy=>h.op y (bB _ hy)
 p1:=λy hy=>by
  rcases h.p1 y hy with h1|h1
  ·rcases aI.1 h1 with rfl|h1
   ·exact .inr hd
   ·exact .inl h1
  ·exact .inr h1
 p2:=λn hn=>by
  rcases h.p2 n hn with h1|h1
  ·rcases aI.1 h1 with h1|h1
   ·exact .inr (h1 ▸ hd)
   ·exact .inl h1
  ·exact .inr h1
theorem zh.step(hg:Gs g){l o:List ItS}{x:ItS}(h:zh g l T L (x::o)){s:Int}(hs:fQ g x.1 x.2.1=some (true,s)):
 zh g l (T1 g s T g.2.2.1.length) (L1 g s (wG g x.1 x.2.1 x.2.2) L g.2.2.1.length) (o++N1 g s (wG g x.1 x.2.1 x.2.2) T L g.2.2.1.length):=by
 obtain⟨hxb,hx0,hxs⟩:=h.op x bu
 have hw:U64 (wG g x.1 x.2.1 x.2.2):=PM hxb
 have hst:∀ n,nG g s n=true->stG g x.1 x.2.1 (n:Int):=λn hn=>by
  obtain⟨pr,h1,h2⟩:=FF.1 hn
  exact⟨n,pr,rfl,h1,by rw[h2];exact hs⟩
 have hcw:∀ n b,nG g s n=true->(wG g x.1 x.2.1 x.2.2).toNat.testBit b=true->ClG g l (n:Int) 0 (some b):=λn b hn hb=>by
  rcases sr.1 hb with h1|h1
  ·exact .first hx0 (hst n hn) h1
  ·exact .look (hxs b h1.2) (hst n hn) h1.1
 have hdx:qH g (T1 g s T g.2.2.1.length) (L1 g s (wG g x.1 x.2.1 x.2.2) L g.2.2.1.length) x:=by
  rintro q ⟨k,pr,rfl,h1,h2⟩
  have hk:=(List.getElem?_eq_some_iff.1 h1).1
  have DL:nG g s k=true:=FF.2 ⟨pr,h1,by rw[hs]at h2;cases h2;rfl⟩
  rw[aa]
  refine⟨?_,λb hb=>?_⟩
  ·unfold T1;rw[DL];simp[hk]
  ·unfold L1
   rw[if_pos (by rw[DL];simp[hk]),dG,hb,jA]
 refine⟨YL h.U hw _,λn hn=>?_,λn b hb=>?_,λy hy=>?_,λy hy=>?_,λn hn=>?_⟩
 ·unfold T1 at hn
  rw[aJ,ag]at hn
  rcases hn with hn|hn
  ·exact h.t n hn
  ·exact .there hx0 (hst n hn.2)
 ·unfold L1 at hb
  split at hb
  ·rename_i hc
   rw[ag]at hc
   rw[dG,aJ]at hb
   rcases hb with hb|hb
   ·exact h.b n b hb
   ·exact hcw n b hc.2 hb
  ·exact h.b n b hb
 ·rcases au.1 hy with hy|hy
  ·exact h.op y (bB _ hy)
  ·obtain⟨n,hn,th,rfl⟩:=LX.1 hy
   have DL:nG g s n=true:=by
    unfold iI at th
    rw[ag]at th
    exact th.1
   refine⟨mE (h.U n) hw,.there hx0 (hst n DL),λb hb=>?_⟩
   rw[dG,aJ]at hb
   rcases hb with hb|hb
   ·exact h.b n b hb
   ·exact hcw n b DL hb
 ·rcases h.p1 y hy with h1|h1
  ·rcases aI.1 h1 with rfl|h1
   ·exact .inr hdx
   ·exact .inl (au.2 (.inl h1))
  ·exact .inr (h1.mono (λi=>FD i) FE)
 ·by_cases hch:iI g s (wG g x.1 x.2.1 x.2.2) T L n=true/\n<g.2.2.1.length
  ·left
   refine au.2 (.inr (LX.2 ⟨n,hch.2,hch.1,?_⟩))
   have DL:nG g s n=true:=by
    have:=hch.1
    unfold iI at this
    rw[ag]at this
    exact this.1
   unfold L1
   rw[if_pos (by rw[DL];simp[hch.2])]
  ·have Qw:T n=true/\L1 g s (wG g x.1 x.2.1 x.2.2) L g.2.2.1.length n=L n:=by
    unfold T1 at hn
    unfold L1
    by_cases hk:n<g.2.2.1.length
    ·have hnb:iI g s (wG g x.1 x.2.1 x.2.2) T L n=false:=by
      cases hq:iI g s (wG g x.1 x.2.1 x.2.2) T L n
      ·rfl
      ·exact absurd ⟨hq,hk⟩ hch
     unfold iI at hnb
     cases hh:nG g s n
     ·rw[hh]at hn
      simp at hn
      exact⟨hn,by simp⟩
     ·rw[hh]at hnb
      simp at hnb
      exact⟨hnb.1,by simp[hk,hnb.2]⟩
    ·simp[hk]at hn
     exact⟨hn,by simp[hk]⟩
   rw[Qw.2]
   rcases h.p2 n Qw.1 with h1|h1
   ·rcases aI.1 h1 with h1|h1
    ·exact .inr (h1 ▸ hdx)
    ·exact .inl (au.2 (.inl h1))
   ·exact .inr (h1.mono (λi=>FD i) FE)
def gp(T:Nat->Bool)(L:Nat->Int)(j:Nat):List ItS:=(List.range j).flatMap λn=>if T n=true then [((n:Int),((0:Int),L n))]else []
theorem s9(j:Nat):gp T L (j+1)=gp T L j++(if T j=true then [((j:Int),((0:Int),L j))]else []):=by
 unfold gp
 rw[dY,gw]
 simp
theorem vG(j:Nat):(gp T L j).length<=j:=by
 induction j with
 |zero=>simp[gp]
 |succ j ih=>
  rw[s9,ak]
  split
  ·simp;omega
  ·simp;omega
theorem j5{j:Nat}{y:ItS}:y∈gp T L j↔∃ n,n<j/\T n=true/\y=((n:Int),((0:Int),L n)):=by
 unfold gp
 simp only[dK,cr]
 constructor
 ·rintro⟨n,hn,hy⟩
  split at hy
  ·rename_i h;exact⟨n,hn,h,aK.1 hy⟩
  ·cases hy
 ·rintro⟨n,hn,h,rfl⟩
  exact⟨n,hn,by rw[if_pos h];exact aK.2 rfl⟩
theorem zh.full{l:List ItS}(h:zh g l T L []){p d:Int}{o:Option Nat}:At (l++gp T L g.2.2.1.length) p d o↔ClG g l p d o:=by
 rw[jf]
 have hd:∀ x∈l++gp T L g.2.2.1.length,qH g T L x:=λx hx=>by
  rcases au.1 hx with hx|hx
  ·exact(h.p1 x hx).resolve_left (λh=>by cases h)
  ·obtain⟨n,_,hn,rfl⟩:=j5.1 hx
   exact(h.p2 n hn).resolve_left (λh=>by cases h)
 constructor
 ·rintro(ha|ha)
  ·exact .base ha
  ·cases o with
   |none=>
    obtain⟨x,hx,rfl,rfl⟩:=ha
    obtain⟨n,_,hn,rfl⟩:=j5.1 hx
    exact h.t n hn
   |some b=>
    obtain⟨x,hx,rfl,rfl,hb⟩:=ha
    obtain⟨n,_,hn,rfl⟩:=j5.1 hx
    exact h.b n b hb
 ·intro ha
  rw[<-jf]
  refine Cl.least (A:=At (l++gp T L g.2.2.1.length)) (λp d o hb=>jf.2 (.inl hb)) (λp d o hs=>?_) ha
  obtain⟨rfl,hs⟩:=hs
  have key:∀ x∈l++gp T L g.2.2.1.length,stG g x.1 x.2.1 p->∃ n:Nat,p=(n:Int)/\((n:Int),((0:Int),L n))∈gp T L g.2.2.1.length/\∀ b,(wG g x.1 x.2.1 x.2.2).toNat.testBit b=true->(L n).toNat.testBit b=true:=λx hx hst=>by
   obtain⟨h1,h2⟩:=hd x hx p hst
   obtain⟨k,pr,rfl,h3,_⟩:=hst
   rw[aa]at h1 h2
   exact⟨k,rfl,j5.2 ⟨k,(List.getElem?_eq_some_iff.1 h3).1,h1,rfl⟩,h2⟩
  cases o with
  |none=>
   obtain⟨p',d',⟨x,hx,rfl,rfl⟩,hst⟩:=hs
   obtain⟨n,rfl,hm,_⟩:=key x hx hst
   exact⟨_,au.2 (.inr hm),rfl,rfl⟩
  |some b=>
   obtain⟨p',d',hst,⟨⟨x,hx,rfl,rfl⟩,hf⟩|⟨⟨x,hx,rfl,rfl,hb⟩,hn⟩⟩:=hs
   ·obtain⟨n,rfl,hm,hw⟩:=key x hx hst
    exact⟨_,au.2 (.inr hm),rfl,rfl,hw b (sr.2 (.inl hf))⟩
   ·obtain⟨n,rfl,hm,hw⟩:=key x hx hst
    exact⟨_,au.2 (.inr hm),rfl,rfl,hw b (sr.2 (.inr ⟨hn,hb⟩))⟩
end
noncomputable section
theorem zj{α:Type}(x:α)(l:List α):cn (x::l) 1 (((x::l).length:Nat):Int)=l:=by simp[cn]
set_option maxHeartbeats 2000000 in
theorem LY{g:GrS}(hg:Gs g){l:List ItS}(hl:OkI l)(hll:l.length<=100000):
 p47 N0 (g,((bsS g.2.1.length (tE g.2.2.1 g.2.1.length),inN g.2.1.length (tF g.2.2.1 g.2.1.length)),(l,())))=some ((eN g l,()),()):=by
 have hps:=hg.ps
 have DI:=fA hg hl
 obtain⟨k,hk⟩:∃ k,k=g.2.2.1.length:=⟨_,rfl⟩
 delta p47 Ld Ap Bd Wi
 simp only[aE]
 simp only[bx,decide_eq_true_eq]
 simp only[<-hk,yX,qD,aa]
 rw[<-hk]at hps
 rw[if_pos ⟨by omega,by omega⟩,if_pos (by omega),if_pos ⟨by omega,by omega⟩,if_pos (by omega)]
 rw[ae (LW (by omega:l.length<=1000000))]
 simp only
 refine aZ (λm z r=>∃ (T:Nat->Bool) (L:Nat->Int) (o:List ItS),z=(((g,((bsS g.2.1.length (tE g.2.2.1 g.2.1.length),inN g.2.1.length (tF g.2.2.1 g.2.1.length)),(bsS k T,(inN k L,o)))),()),())/\zh g l T L o/\m=o.length+nH k T L/\m<=101000/\r=some ((eN g l,()),())) ?_ N0 (l.length+nH k (λ_=>false) (λ_=>0)) _ _ (by
  have:=BW k (λ_=>false) (λ_=>0)
  unfold N0;omega) ⟨λ_=>false,λ_=>0,l,rfl,⟨λ_=>xq,(λn h=>by cases h),(λn b h=>by simp at h),λx hx=>⟨hl.bd x hx,.base ⟨x,hx,rfl,rfl⟩,λb hb=>.base ⟨x,hx,rfl,rfl,hb⟩⟩,λx hx=>.inl hx,(λn h=>by cases h)⟩,rfl,by
  have:=BW k (λ_=>false) (λ_=>0)
  omega,rfl⟩
 rintro m z r ⟨T,L,o,rfl,hI,rfl,hm,rfl⟩ K hK
 cases o with
 |cons x o=>
  have c:(0:Int)<(((x::o).length:Nat):Int):=by rw[aO];omega
  have c2:(0:Int)<=1/\(1:Int)<=(((x::o).length:Nat):Int)/\True:=⟨by omega,by rw[aO];omega,trivial⟩
  have hlen:(x::o).length=o.length+1:=rfl
  obtain⟨hxb,_,_⟩:=hI.op x bu
  simp only[c,if_true,im,Int.toNat_zero,List.getElem?_cons_zero,DF,aD]
  rw[if_pos c2]
  have Qx:qH g T L x->K (((g,((bsS g.2.1.length (tE g.2.2.1 g.2.1.length),inN g.2.1.length (tF g.2.2.1 g.2.1.length)),(bsS k T,(inN k L,o)))),()),())=some ((eN g l,()),()):=λhd=>
   hK (o.length+nH k T L) _ _ (by omega) ⟨T,L,o,rfl,hI.skip hd,rfl,by omega,rfl⟩
  cases hn:fQ g x.1 x.2.1 with
  |none=>
   simp only[ap,if_false,zj]
   exact Qx λq hq=>by
    obtain⟨_,_,_,_,h⟩:=hq
    rw[hn]at h;cases h
  |some y=>
   obtain⟨y1,y2⟩:=y
   cases y1
   ·simp only[if_true,ap,if_false,zj]
    exact Qx λq hq=>by
     obtain⟨_,_,_,_,h⟩:=hq
     rw[hn]at h;cases h
   ·have n3:=oS hg x.1
    have e77:p97 N0 ((bsS g.2.1.length (tE g.2.2.1 g.2.1.length),inN g.2.1.length (tF g.2.2.1 g.2.1.length)),(qG g x.1 x.2.1,(x.2.2,())))=some ((wG g x.1 x.2.1 x.2.2,()),()):=
     SN (λi=>Ly i) (λz hz=>BT hg x.1 z (hC hz)) (by show(List.drop _ _).length<=_;rw[bD];unfold maxLen;omega) hxb
    have e76:=SZ (g:=g) (s:=y2) (T:=T) (L:=L) hg hI.U (PM (g:=g) (p:=x.1) (d:=x.2.1) hxb) (bsS g.2.1.length (tE g.2.2.1 g.2.1.length),inN g.2.1.length (tF g.2.2.1 g.2.1.length)) o (by omega)
    rw[<-hk]at e76
    simp only[if_true,zj,SS hg hn,aD,e77]
    rw[e76]
    simp only[aD]
    have VP:=FC (g:=g) (s:=y2) (T:=T) (L:=L) hI.U (PM (g:=g) (p:=x.1) (d:=x.2.1) hxb) g.2.2.1.length (aw _)
    have s8:=hI.step hg hn
    rw[<-hk]at VP s8
    exact hK (o.length+(N1 g y2 (wG g x.1 x.2.1 x.2.2) T L k).length+nH k (T1 g y2 T k) (L1 g y2 (wG g x.1 x.2.1 x.2.2) L k)) _ _ (by omega) ⟨_,_,_,rfl,s8,by rw[ak],by omega,rfl⟩
 |nil=>
  simp only[bn,show ¬(0:Int)<((0:Nat):Int) by omega,if_false,oP]
  rw[ae (LW (by omega:l.length<=1000000))]
  simp only
  have hth:=vG (T:=T) (L:=L) k
  refine a8 (λj=>((),(BV l (gp T L j),((j:Int),())))) (λ_=>some ((eN g l,()),())) k (λj hj M hM=>?_) N0 0 (az _) (by unfold N0;omega)
  simp only[oT]at hM |-
  rcases aj j k with hjk|hjk
  ·have cj:(j:Int)<(k:Int):=by omega
   have hM:=hM hjk
   have hj1:IntKind.wrap .i64 ((j:Int)+1)=((j+1:Nat):Int):=bJ hjk (by omega)
   have Ze:=vG (T:=T) (L:=L) j
   rw[s9,<-aT]at hM
   simp only[cj,if_true,aB,aa,jo _ hjk,kt _ hjk,hj1]
   cases hT:T j
   ·rw[hT]at hM
    simpa using hM
   ·rw[hT]at hM
    simp only[if_true,ak,aO,bn]at hM |-
    rw[if_pos (by omega),if_pos (by omega)]
    exact hM
  ·have cj:¬(j:Int)<(k:Int):=by omega
   have e:j=k:=by omega
   subst e
   simp only[cj,if_false]
   have hbd:∀ x∈l++gp T L j,je x:=λx hx=>by
    rcases au.1 hx with hx|hx
    ·exact hl.bd x hx
    ·obtain⟨n,_,_,rfl⟩:=j5.1 hx
     exact hI.U n
   rw[LJ hbd (by rw[ak];omega)]
   simp only[aD]
   have LU:∀ p d o,At (l++gp T L j) p d o↔ClG g l p d o:=λp d o=>by
    rw[hk];exact hI.full
   rw[((ja hbd).congr LU).BG DI]
def mg(g:GrS):List ItS:=[((g.2.2.1.length:Int),((0:Int),pG 63))]
theorem S7(g:GrS):p48 N0 (g,())=some ((mg g,()),()):=by
 unfold p48
 simp only[yV 63 (by omega) (by omega),aD]
 rfl
theorem S8(g:GrS):p86 N0 (g,())=some ((mg g,()),()):=by
 unfold p86
 simp only[Fo,aD]
 rfl
theorem sA{g:GrS}(hg:Gs g):OkI (mg g):=by
 have:=hg.ps
 refine⟨λx hx=>?_,λx hx=>?_⟩
 ·rw[aK.1 hx];exact sj 63
 ·rw[aK.1 hx]
  exact⟨by show(0:Int)<=(g.2.2.1.length:Int);omega,by show(g.2.2.1.length:Int)<=12;omega,by show(0:Int)<=0;omega,by show(0:Int)<=20;omega⟩
def goX(g:GrS)(s:SyS)(x:ItS):List ItS:=if fQ g x.1 x.2.1=some s then [(x.1,(x.2.1+1,x.2.2))]else []
def goL(g:GrS)(s:SyS)(l:List ItS):List ItS:=l.flatMap (goX g s)
theorem oU(g:GrS)(s:SyS):∀ l,(goL g s l).length<=l.length
 |[]=>by simp[goL]
 |x::l=>by
  have:=oU g s l
  unfold goL at *
  rw[kL,ak,aO]
  have:(goX g s x).length<=1:=by unfold goX;split <;> simp
  omega
theorem mh{g:GrS}{s:SyS}{l:List ItS}{y:ItS}:y∈goL g s l↔∃ x∈l,fQ g x.1 x.2.1=some s/\y=(x.1,(x.2.1+1,x.2.2)):=by
 unfold goL
 rw[dK]
 constructor
 ·rintro⟨x,hx,hy⟩
  unfold goX at hy
  split at hy
  ·rename_i h;exact⟨x,hx,h,aK.1 hy⟩
  ·cases hy
 ·rintro⟨x,hx,h,rfl⟩
  exact⟨x,hx,by unfold goX;rw[if_pos h];exact aK.2 rfl⟩
theorem sB{g:GrS}(hg:Gs g)(s:SyS){l:List ItS}(hl:OkI l):OkI (goL g s l):=by
 refine⟨λy hy=>?_,λy hy=>?_⟩
 ·obtain⟨x,hx,_,rfl⟩:=mh.1 hy
  exact hl.bd x hx
 ·obtain⟨x,hx,hn,rfl⟩:=mh.1 hy
  have:=SR hg hn
  exact⟨this.1,this.2.1,by show 0<=x.2.1+1;omega,by show x.2.1+1<=20;omega⟩
theorem tP{l:List ItS}(hl:OkI l):OkI (fo l):=by
 have hc:=ja hl.bd
 exact LP hc λp d o h=>hl.inU h
theorem BX(g:GrS)(s:SyS)(l:List ItS){j:Nat}(h:j<l.length):goL g s (l.take (j+1))=goL g s (l.take j)++goX g s l[j]:=by
 unfold goL
 rw[cJ _ _ h,gw]
 simp
theorem mj{y s:SyS}:((bif(y.1 == s.1)then decide (y.2=s.2)else false)=true)↔some y=some s:=by
 obtain⟨a,b⟩:=y
 obtain⟨c,d⟩:=s
 cases a <;> cases c <;> simp
theorem S9{g:GrS}(hg:Gs g)(s:SyS){l:List ItS}(hl:OkI l)(hll:l.length<=100000):p50 N0 (g,(l,(s,())))=some ((fo (goL g s l),()),()):=by
 delta p50 Ld Ap Bd Wi
 simp only[aE,decide_eq_true_eq]
 refine a8 (λj=>((),(goL g s (l.take j),((j:Int),())))) (λ_=>some ((fo (goL g s l),()),())) l.length (λj hj K hK=>?_) N0 0 (az _) (by unfold N0;omega)
 rcases aj j l.length with h|h
 ·have c:(j:Int)<(l.length:Int):=by omega
  have hK:=hK h
  have hj1:IntKind.wrap .i64 ((j:Int)+1)=((j+1:Nat):Int):=bJ h (by omega)
  have hgl:=oU g s (l.take j)
  rw[aL]at hgl
  rw[BX g s l h]at hK
  have hrg:=hl.rg _ (aN h)
  simp only[c,decide_true,cond_true,aB,if_true,aa,List.getElem?_eq_getElem h,DF,aD,hj1]
  generalize l[j]=x at *
  generalize goL g s (l.take j)=out at *
  have hw:IntKind.wrap .i64 (x.2.1+1)=x.2.1+1:=bp (by omega) (by omega)
  rw[<-hK]
  unfold goX
  cases hn:fQ g x.1 x.2.1 with
  |none=>simp
  |some y=>
   simp only[cond_true,hw]
   by_cases he:some y=some s
   ·rw[mj.2 he,cond_true,if_pos he,if_pos (by simp;omega),if_pos (by simp;omega)]
   ·have hf:(bif(y.1 == s.1)then decide (y.2=s.2)else false)=false:=by
     cases hq:(bif(y.1 == s.1)then decide (y.2=s.2)else false)
     ·rfl
     ·exact absurd (mj.1 hq) he
    rw[hf,cond_false,if_neg he,bV]
 ·have c:¬(j:Int)<(l.length:Int):=by omega
  simp only[c,decide_false,cond_false]
  rw[bK h]
  have hok:=sB hg s hl
  have:=oU g s l
  rw[LJ hok.bd (by omega)]
  rfl
theorem Ta{g:GrS}(hg:Gs g)(s:SyS){l:List ItS}(hl:OkI l)(hll:l.length<=100000):p88 N0 (g,(l,(s,())))=some ((fo (goL g s l),()),()):=by
 delta p88 Ld Ap Bd Wi
 simp only[aE,decide_eq_true_eq]
 refine a8 (λj=>((),(goL g s (l.take j),((j:Int),())))) (λ_=>some ((fo (goL g s l),()),())) l.length (λj hj K hK=>?_) N0 0 (az _) (by unfold N0;omega)
 rcases aj j l.length with h|h
 ·have c:(j:Int)<(l.length:Int):=by omega
  have hK:=hK h
  have hj1:IntKind.wrap .i64 ((j:Int)+1)=((j+1:Nat):Int):=bJ h (by omega)
  have hgl:=oU g s (l.take j)
  rw[aL]at hgl
  rw[BX g s l h]at hK
  have hrg:=hl.rg _ (aN h)
  simp only[c,decide_true,cond_true,aB,if_true,aa,List.getElem?_eq_getElem h,zd,aD,hj1]
  generalize l[j]=x at *
  generalize goL g s (l.take j)=out at *
  have hw:IntKind.wrap .i64 (x.2.1+1)=x.2.1+1:=bp (by omega) (by omega)
  rw[<-hK]
  unfold goX
  cases hn:fQ g x.1 x.2.1 with
  |none=>simp
  |some y=>
   simp only[cond_true,hw]
   by_cases he:some y=some s
   ·rw[mj.2 he,cond_true,if_pos he,if_pos (by simp;omega),if_pos (by simp;omega)]
   ·have hf:(bif(y.1 == s.1)then decide (y.2=s.2)else false)=false:=by
     cases hq:(bif(y.1 == s.1)then decide (y.2=s.2)else false)
     ·rfl
     ·exact absurd (mj.1 hq) he
    rw[hf,cond_false,if_neg he,bV]
 ·have c:¬(j:Int)<(l.length:Int):=by omega
  simp only[c,decide_false,cond_false]
  rw[bK h]
  have hok:=sB hg s hl
  have:=oU g s l
  rw[za hok.bd (by omega)]
  rfl
end
noncomputable section
structure H8(A:SyS->Prop)(l:List SyS):Prop where
 st:l.Pairwise λx y=>ltS x y=true
 mem:∀ s,s∈l↔A s
theorem FG:∀ {l m:List SyS},l.Pairwise (λx y=>ltS x y=true)->m.Pairwise (λx y=>ltS x y=true)->(∀ x,x∈l↔x∈m)->l=m
 |[],[],_,_,_=>rfl
 |[],b::m,_,_,h=>by have:=(h b).2 bu;cases this
 |a::l,[],_,_,h=>by have:=(h a).1 bu;cases this
 |a::l,b::m,h1,h2,h=>by
  obtain⟨p1,p2⟩:=dx.1 h1
  obtain⟨q1,q2⟩:=dx.1 h2
  have e:a=b:=by
   rcases aI.1 ((h a).1 bu)with e|ha
   ·exact e
   rcases aI.1 ((h b).2 bu)with e|hb
   ·exact e.symm
   exact(yy (p1 b hb) (q1 a ha)).elim
  subst e
  have:=FG p2 q2 (λx=>by
   constructor
   ·intro hx
    rcases aI.1 ((h x).1 (bB _ hx))with e|hm
    ·subst e
     have:=p1 x hx
     rw[l6]at this;cases this
    ·exact hm
   ·intro hx
    rcases aI.1 ((h x).2 (bB _ hx))with e|hm
    ·subst e
     have:=q1 x hx
     rw[l6]at this;cases this
    ·exact hm)
  rw[this]
theorem H8.BG{A:SyS->Prop}{l m:List SyS}(h:H8 A l)(k:H8 A m):l=m:=FG h.st k.st λs=>(h.mem s).trans (k.mem s).symm
def Nxs(g:GrS)(l:List ItS)(s:SyS):Prop:=∃ x∈l,fQ g x.1 x.2.1=some s
def sC(g:GrS)(out:List SyS)(x:ItS):List SyS:=match fQ g x.1 x.2.1 with
 |some s=>if s∈out then out else out++[s]
 |none=>out
def o6(g:GrS)(l:List ItS):List SyS:=l.foldl (sC g) []
theorem H9(g:GrS)(l:List ItS){j:Nat}(h:j<l.length):o6 g (l.take (j+1))=sC g (o6 g (l.take j)) l[j]:=by
 unfold o6
 rw[cJ _ _ h,eD]
 rfl
theorem xt(g:GrS)(l:List ItS):(o6 g l).Nodup/\∀ s,s∈o6 g l↔Nxs g l s:=by
 have key:∀ (l:List ItS) (o:List SyS),o.Nodup->(l.foldl (sC g) o).Nodup/\∀ s,s∈l.foldl (sC g) o↔s∈o\/Nxs g l s:=by
  intro l
  induction l with
  |nil=>intro o ho;exact⟨ho,λs=>⟨.inl,λh=>h.elim id λ⟨x,hx,_⟩=>by cases hx⟩⟩
  |cons x l ih=>
   intro o ho
   have hx:(sC g o x).Nodup/\∀ s,s∈sC g o x↔s∈o\/fQ g x.1 x.2.1=some s:=by
    unfold sC
    cases hn:fQ g x.1 x.2.1 with
    |none=>exact⟨ho,λs=>by simp⟩
    |some y=>
     simp only
     split
     ·rename_i hm
      refine⟨ho,λs=>⟨.inl,?_⟩⟩
      rintro(h|h)
      ·exact h
      ·cases h;exact hm
     ·rename_i hm
      refine⟨List.nodup_append.2 ⟨ho,oh.2 ⟨by simp,List.nodup_nil⟩,λa ha b hb=>by
       rw[aK.1 hb]
       intro e;exact hm (e ▸ ha)⟩,λs=>?_⟩
      rw[au,aK]
      constructor
      ·rintro(h|h)
       ·exact .inl h
       ·exact .inr (by rw[h])
      ·rintro(h|h)
       ·exact .inl h
       ·cases h;exact .inr rfl
   obtain⟨h1,h2⟩:=ih (sC g o x) hx.1
   refine⟨h1,λs=>(h2 s).trans ?_⟩
   rw[hx.2]
   constructor
   ·rintro((h|h)|⟨z,hz,h⟩)
    ·exact .inl h
    ·exact .inr ⟨x,bu,h⟩
    ·exact .inr ⟨z,bB _ hz,h⟩
   ·rintro(h|⟨z,hz,h⟩)
    ·exact .inl (.inl h)
    ·rcases aI.1 hz with rfl|hz
     ·exact .inl (.inr h)
     ·exact .inr ⟨z,hz,h⟩
 obtain⟨h1,h2⟩:=key l [] List.nodup_nil
 exact⟨h1,λs=>(h2 s).trans (by simp)⟩
theorem LZ(g:GrS)(o:List SyS)(x:ItS):(sC g o x).length<=o.length+1:=by
 unfold sC
 split
 ·split
  ·omega
  ·simp
 ·omega
theorem BY(g:GrS)(l:List ItS):(o6 g l).length<=l.length:=by
 have key:∀ (l:List ItS) (o:List SyS),(l.foldl (sC g) o).length<=o.length+l.length:=by
  intro l
  induction l with
  |nil=>intro o;simp
  |cons x l ih=>
   intro o
   have h1:=ih (sC g o x)
   have h2:=LZ g o x
   simp only[kN,aO]
   omega
 simpa [o6]using key l []
def bM(g:GrS)(l:List ItS):List SyS:=gJ (o6 g l)
theorem ml(g:GrS)(l:List ItS):H8 (Nxs g l) (bM g l):=by
 obtain⟨h1,h2⟩:=xt g l
 have hp:=gn (o6 g l)
 have hnd:(gJ (o6 g l)).Nodup:=hp.nodup_iff.2 h1
 refine⟨?_,λs=>(hp.mem_iff).trans (h2 s)⟩
 have VQ:=(l8 (o6 g l)).and hnd
 refine VQ.imp λ{a b} h=>?_
 rcases uR a b with h'|h'|h'
 ·exact h'
 ·exact absurd h' h.2
 ·have:=h.1
  unfold leS at this
  rw[h']at this;cases this
theorem j6(g:GrS)(l:List ItS):(bM g l).length<=l.length:=by
 unfold bM
 rw[(gn _).length_eq]
 exact BY g l
theorem PP{o:List SyS}(ho:o.length<=1000000)(s:SyS):Ou N0 (o,(s,()))=some ((decide (s∈o),()),()):=by
 have h103:∃ i:Int,Ot N0 (o,(s,()))=some ((i,()),())/\(0<=i↔s∈o):=by
  delta Ot Ld Bd Wi
  simp only[aE,decide_eq_true_eq]
  by_cases hs:s∈o
  ·-- the first place
   have Tb:∃ i,∃ h:i<o.length,o[i]=s/\∀ k (h':k<o.length),k<i->o[k]≠s:=by
    have:∀ n,(∃ i,i<n/\∃ h:i<o.length,o[i]=s)->∃ i,∃ h:i<o.length,o[i]=s/\∀ k (h':k<o.length),k<i->o[k]≠s:=by
     intro n
     induction n with
     |zero=>rintro⟨i,h,_⟩;omega
     |succ n ih=>
      rintro⟨i,hi,hl,he⟩
      by_cases hex:∃ k,k<n/\∃ h:k<o.length,o[k]=s
      ·exact ih hex
      ·have:i=n:=by
        apply ju
        intro hne
        exact hex ⟨i,by omega,hl,he⟩
       subst this
       exact⟨i,hl,he,λk h' hk e=>hex ⟨k,hk,h',e⟩⟩
    obtain⟨i,hi,he⟩:=eZ.1 hs
    exact this (i+1) ⟨i,by omega,hi,he⟩
   obtain⟨i,hi,he,hno⟩:=Tb
   refine⟨i,?_,⟨λ_=>hs,λ_=>aB i⟩⟩
   refine a8 (λj=>((),((j:Int),()))) (λ_=>some (((i:Int),()),())) i (λj hj K hK=>?_) N0 0 (az _) (by unfold N0;omega)
   have hjl:j<o.length:=by omega
   have c:(j:Int)<(o.length:Int):=by omega
   have hj1:IntKind.wrap .i64 ((j:Int)+1)=((j+1:Nat):Int):=bJ hjl (by omega)
   simp only[c,decide_true,cond_true,aB,if_true,aa,List.getElem?_eq_getElem hjl,hj1]
   by_cases e:j=i
   ·subst e
    have:(bif(s.1 == o[j].1)then decide (s.2=o[j].2)else false)=true:=mj.2 (by rw[he])
    rw[this];rfl
   ·have hne:=hno j hjl (by omega)
    have:(bif(s.1 == o[j].1)then decide (s.2=o[j].2)else false)=false:=by
     cases hq:(bif(s.1 == o[j].1)then decide (s.2=o[j].2)else false)
     ·rfl
     ·have:=mj.1 hq
      cases this
      exact absurd rfl hne
    rw[this]
    exact hK (by omega)
  ·refine⟨-1,?_,⟨λh=>by omega,λh=>absurd h hs⟩⟩
   refine a8 (λj=>((),((j:Int),()))) (λ_=>some ((-1,()),())) o.length (λj hj K hK=>?_) N0 0 (az _) (by unfold N0;omega)
   rcases aj j o.length with hjl|hjl
   ·have c:(j:Int)<(o.length:Int):=by omega
    have hj1:IntKind.wrap .i64 ((j:Int)+1)=((j+1:Nat):Int):=bJ hjl (by omega)
    simp only[c,decide_true,cond_true,aB,if_true,aa,List.getElem?_eq_getElem hjl,hj1]
    have:(bif(s.1 == o[j].1)then decide (s.2=o[j].2)else false)=false:=by
     cases hq:(bif(s.1 == o[j].1)then decide (s.2=o[j].2)else false)
     ·rfl
     ·have:=mj.1 hq
      cases this
      exact absurd (aN hjl) hs
    rw[this]
    exact hK hjl
   ·have c:¬(j:Int)<(o.length:Int):=by omega
    simp only[c,decide_false,cond_false]
 obtain⟨i,h1,h2⟩:=h103
 unfold Ou
 simp only[h1,aD]
 congr 3
 by_cases hs:s∈o
 ·simp[h2.2 hs,hs]
 ·have:¬0<=i:=λh=>hs (h2.1 h)
  simp[this,hs]
theorem Tc(g:GrS){l:List ItS}(hll:l.length<=100000):p49 N0 (g,(l,()))=some ((bM g l,()),()):=by
 delta p49 Ld Ap Bd Wi
 simp only[aE,bx,decide_eq_true_eq]
 refine a8 (λj=>((),(o6 g (l.take j),((j:Int),())))) (λ_=>some ((bM g l,()),())) l.length (λj hj K hK=>?_) N0 0 (az _) (by unfold N0;omega)
 have hdl:=BY g (l.take j)
 rw[aL]at hdl
 rcases aj j l.length with h|h
 ·have c:(j:Int)<(l.length:Int):=by omega
  have hK:=hK h
  have hj1:IntKind.wrap .i64 ((j:Int)+1)=((j+1:Nat):Int):=bJ h (by omega)
  rw[H9 g l h]at hK
  simp only[c,if_true,aB,aa,List.getElem?_eq_getElem h,DF,aD,hj1]
  generalize l[j]=x at *
  generalize o6 g (l.take j)=out at *
  rw[<-hK]
  unfold sC
  cases hn:fQ g x.1 x.2.1 with
  |none=>simp
  |some y=>
   simp only[if_true,PP (by omega:out.length<=1000000) y,aD]
   by_cases hm:y∈out
   ·simp[hm]
   ·simp only[hm,decide_false,aH,if_true,aO,bn,if_false]
    rw[if_pos (by omega),if_pos (by omega)]
 ·have c:¬(j:Int)<(l.length:Int):=by omega
  rw[bK h]at hdl |-
  simp only[c,if_false]
  have h82:Df N0 (o6 g l,((),()))=some ((),(bM g l,())):=by
   unfold Df
   rw[if_pos (by show(o6 g l).length<_;omega)]
   rfl
  rw[h82]
  rfl
end
noncomputable section
def PQ(kb:Bool)(o:List SyS)(s:SyS):Bool:=match o[o.length-1]? with
 |some y=>(y.1 == kb)&&decide (s.2<=y.2)
 |none=>false
def okS(kb:Bool)(o:List SyS)(s:SyS):Bool:=(s.1 == kb)&&!PQ kb o s
def jr(g:GrS)(l:List ItS)(kb:Bool)(o:List SyS)(b0:SyS):Nat->SyS×Bool
 |0=>(b0,false)
 |j+1=>match l[j]? with
  |some x=>(match fQ g x.1 x.2.1 with
   |some s=>if(okS kb o s&&(!(jr g l kb o b0 j).2||decide (s.2<(jr g l kb o b0 j).1.2)))=true then(s,true)else jr g l kb o b0 j
   |none=>jr g l kb o b0 j)
  |none=>jr g l kb o b0 j
theorem xu(g:GrS)(l:List ItS)(kb:Bool)(o:List SyS)(b0:SyS){j:Nat}(h:j<l.length):jr g l kb o b0 (j+1)=(match fQ g l[j].1 l[j].2.1 with
 |some s=>if(okS kb o s&&(!(jr g l kb o b0 j).2||decide (s.2<(jr g l kb o b0 j).1.2)))=true then(s,true)else jr g l kb o b0 j
 |none=>jr g l kb o b0 j):=by
 rw[jr,List.getElem?_eq_getElem h]
theorem xv(g:GrS)(l:List ItS)(kb:Bool)(o:List SyS)(b0:SyS):∀ j,j<=l.length->
 ((jr g l kb o b0 j).2=false->∀ k (h:k<l.length) s,k<j->fQ g l[k].1 l[k].2.1=some s->okS kb o s=false)/\
 ((jr g l kb o b0 j).2=true->okS kb o (jr g l kb o b0 j).1=true/\(∃ x∈l,fQ g x.1 x.2.1=some (jr g l kb o b0 j).1)/\∀ k (h:k<l.length) s,k<j->fQ g l[k].1 l[k].2.1=some s->okS kb o s=true->(jr g l kb o b0 j).1.2<=s.2)
 |0,_=>⟨λ_ k h s hk=>by omega,λh=>by cases h⟩
 |j+1,hj=>by
  obtain⟨ih1,ih2⟩:=xv g l kb o b0 j (by omega)
  have hjl:j<l.length:=by omega
  rw[xu g l kb o b0 hjl]
  generalize jr g l kb o b0 j=B at *
  have hkj:∀ k (h:k<l.length),k<j+1->k<j\/k=j:=λk _ h=>by omega
  cases hn:fQ g l[j].1 l[j].2.1 with
  |none=>
   simp only
   refine⟨λhb k hk s zk hs=>?_,λhb=>⟨(ih2 hb).1,(ih2 hb).2.1,λk hk s zk hs=>?_⟩⟩
   ·rcases hkj k hk zk with h|h
    ·exact ih1 hb k hk s h hs
    ·subst h;rw[hn]at hs;cases hs
   ·rcases hkj k hk zk with h|h
    ·exact(ih2 hb).2.2 k hk s h hs
    ·subst h;rw[hn]at hs;cases hs
  |some y=>
   simp only
   by_cases hc:(okS kb o y&&(!B.2||decide (y.2<B.1.2)))=true
   ·rw[if_pos hc]
    rw[ag,aJ]at hc
    refine⟨(λh=>by cases h),λ_=>⟨hc.1,⟨_,aN hjl,hn⟩,λk hk s zk hs hok=>?_⟩⟩
    rcases hkj k hk zk with h|h
    ·rcases hc.2 with h2|h2
     ·have:=ih1 (by simpa using h2) k hk s h hs
      rw[this]at hok;cases hok
     ·by_cases hB:B.2=true
      ·have:=(ih2 hB).2.2 k hk s h hs hok
       have h2:y.2<B.1.2:=by simpa using h2
       show y.2<=s.2
       omega
      ·have:=ih1 (by simpa using hB) k hk s h hs
       rw[this]at hok;cases hok
    ·subst h
     rw[hn]at hs
     cases hs
     exact im _
   ·rw[if_neg hc]
    have hc':okS kb o y=true->B.2=true/\B.1.2<=y.2:=λhok=>by
     rw[hok,bG]at hc
     have:=hc
     simp only[aJ,bC,decide_eq_true_eq,not_or,Bool.not_eq_false]at this
     exact⟨this.1,by omega⟩
    refine⟨λhb k hk s zk hs=>?_,λhb=>⟨(ih2 hb).1,(ih2 hb).2.1,λk hk s zk hs hok=>?_⟩⟩
    ·rcases hkj k hk zk with h|h
     ·exact ih1 hb k hk s h hs
     ·subst h
      rw[hn]at hs
      cases hs
      cases hok:okS kb o y
      ·rfl
      ·rw[(hc' hok).1]at hb;cases hb
    ·rcases hkj k hk zk with h|h
     ·exact(ih2 hb).2.2 k hk s h hs hok
     ·subst h
      rw[hn]at hs
      cases hs
      exact(hc' hok).2
structure BZ(g:GrS)(l:List ItS)(kb:Bool)(o:List SyS):Prop where
 st:o.Pairwise λx y=>ltS x y=true
 a:∀ s∈o,Nxs g l s/\(s.1=true->kb=true)
 al:∀ s,Nxs g l s->s∈o\/(s.1=kb/\∀ y∈o,ltS y s=true)\/(s.1=true/\kb=false)
theorem VS{o:List SyS}(h:o.Pairwise λx y=>ltS x y=true){y:SyS}(hy:o[o.length-1]?=some y):∀ z∈o,z=y\/ltS z y=true:=by
 intro z hz
 obtain⟨i,hi,rfl⟩:=eZ.1 hz
 obtain⟨hl,rfl⟩:=List.getElem?_eq_some_iff.1 hy
 by_cases e:i=o.length-1
 ·subst e;exact .inl rfl
 ·exact .inr (nU.1 h i (o.length-1) hi hl (by omega))
theorem tQ{g:GrS}{l:List ItS}{kb:Bool}{o:List SyS}(h:BZ g l kb o)(s:SyS):okS kb o s=true↔s.1=kb/\∀ y∈o,ltS y s=true:=by
 unfold okS PQ
 rw[ag,beq_iff_eq]
 refine and_congr_right λhk=>?_
 cases hy:o[o.length-1]? with
 |none=>
  have:o=[]:=by
   rcases List.eq_nil_or_concat o with h|⟨a,b,rfl⟩
   ·exact h
   ·simp at hy
  subst this
  simp
 |some y=>
  have hym:=List.mem_of_getElem? hy
  have hyk:=(h.a y hym).2
  have key:ltS y s=true↔¬((y.1 == kb)=true/\s.2<=y.2):=by
   rw[l5,hk]
   cases hy1:y.1
   ·cases kb <;> simp
   ·rw[hyk hy1];simp
  simp only[bC,gY,decide_eq_false_iff_not]
  constructor
  ·intro hn z hz
   have hys:ltS y s=true:=key.2 λ⟨a,b⟩=>by
    rcases hn with hn|hn
    ·rw[a]at hn;cases hn
    ·exact hn b
   rcases VS h.st hy z hz with rfl|hlt
   ·exact hys
   ·exact yx hlt hys
  ·intro fK
   have:=key.1 (fK y hym)
   by_cases hb:(y.1 == kb)=true
   ·exact .inr λhle=>this ⟨hb,hle⟩
   ·exact .inl (by simpa using hb)
theorem BZ.more{g:GrS}{l:List ItS}{kb:Bool}{o:List SyS}(h:BZ g l kb o){s:SyS}(hok:okS kb o s=true)(hs:Nxs g l s)(Q9:∀ t,Nxs g l t->okS kb o t=true->s.2<=t.2):BZ g l kb (o++[s]):=by
 obtain⟨h1,h2⟩:=(tQ h s).1 hok
 refine⟨gu.2 ⟨h.st,nW _ _,λa ha b hb=>by rw[aK.1 hb];exact h2 a ha⟩,λt ht=>?_,λt ht=>?_⟩
 ·rcases au.1 ht with ht|ht
  ·exact h.a t ht
  ·rw[aK.1 ht]
   exact⟨hs,λe=>by rw[<-h1,e]⟩
 ·rcases h.al t ht with h3|⟨h3,h4⟩|h3
  ·exact .inl (au.2 (.inl h3))
  ·have hle:=Q9 t ht ((tQ h t).2 ⟨h3,h4⟩)
   by_cases e:t=s
   ·exact .inl (au.2 (.inr (aK.2 e)))
   ·refine .inr (.inl ⟨h3,λy hy=>?_⟩)
    rcases au.1 hy with hy|hy
    ·exact h4 y hy
    ·rw[aK.1 hy,l5]
     right
     refine⟨h1.trans h3.symm,?_⟩
     have hne:t.2≠s.2:=λe2=>e (by
      obtain⟨a,b⟩:=t
      obtain⟨c,d⟩:=s
      simp only at *
      rw[h3,h1,e2])
     omega
  ·exact .inr (.inr h3)
def goA(g:GrS)(l:List ItS)(k:Nat)(s:SyS):Prop:=Nxs g l s/\(s.1=true->2<=k)/\1<=k
theorem BZ.fin{g:GrS}{l:List ItS}{kb:Bool}{o:List SyS}(h:BZ g l kb o)(hno:∀ t,Nxs g l t->okS kb o t=false):H8 (goA g l (if kb=true then 2 else 1)) o:=by
 refine⟨h.st,λs=>⟨λhs=>?_,λhs=>?_⟩⟩
 ·obtain⟨h1,h2⟩:=h.a s hs
  refine⟨h1,λe=>?_,?_⟩
  ·rw[if_pos (h2 e)];exact aw _
  ·split <;> omega
 ·obtain⟨h1,h2,_⟩:=hs
  rcases h.al s h1 with h3|h3|h3
  ·exact h3
  ·have:=(tQ h s).2 h3
   rw[hno s h1]at this;cases this
  ·have:=h2 h3.1
   rw[if_neg (by rw[h3.2];exact jw)]at this
   omega
def goS(g:GrS)(l:List ItS):Nat->List SyS
 |0=>[]
 |1=>(bM g l).filter λs=>!s.1
 |_=>bM g l
theorem L3(g:GrS)(l:List ItS)(k:Nat):H8 (goA g l k) (goS g l k):=by
 have h:=ml g l
 match k with
 |0=>exact⟨.nil,λs=>⟨(λh=>by cases h),(λh=>by have:=h.2.2;omega)⟩⟩
 |1=>
  refine⟨h.st.filter _,λs=>?_⟩
  show s∈(bM g l).filter _↔_
  rw[fG,h.mem]
  unfold goA
  cases hs:s.1 <;> simp
 |k+2=>
  refine⟨h.st,λs=>?_⟩
  show s∈bM g l↔_
  rw[h.mem]
  unfold goA
  constructor
  ·intro h;exact⟨h,λ_=>by omega,by omega⟩
  ·intro h;exact h.1
theorem DM(g:GrS)(l:List ItS)(k:Nat)(hk:k<2):BZ g l (decide (k=1)) (goS g l k):=by
 have h:=L3 g l k
 refine⟨h.st,λs hs=>?_,λs hs=>?_⟩
 ·obtain⟨h1,h2,h3⟩:=(h.mem s).1 hs
  refine⟨h1,λe=>?_⟩
  have:=h2 e
  omega
 ·by_cases hm:s∈goS g l k
  ·exact .inl hm
  ·right
   match k,hk with
   |0,_=>
    cases h1:s.1
    ·exact .inl ⟨rfl,λy hy=>by cases hy⟩
    ·exact .inr ⟨rfl,rfl⟩
   |1,_=>
    cases h1:s.1
    ·exact absurd ((h.mem s).2 ⟨hs,(λe=>by rw[h1]at e;cases e),by omega⟩) hm
    ·refine .inl ⟨rfl,λy hy=>?_⟩
     obtain⟨_,h3,_⟩:=(h.mem y).1 hy
     rw[l5]
     left
     refine⟨?_,h1⟩
     cases h4:y.1
     ·rfl
     ·have:=h3 h4;omega
set_option maxHeartbeats 2000000 in
theorem Td(g:GrS){l:List ItS}(hll:l.length<=100000):p87 N0 (g,(l,()))=some ((bM g l,()),()):=by
 have hsl:=j6 g l
 delta p87 Ld Ap Bd Wi
 simp only[aE]
 simp only[bx,decide_eq_true_eq]
 refine a8 (λk=>((),(goS g l k,((k:Int),())))) (λ_=>some ((bM g l,()),())) 2 (λk hk K hK=>?_) N0 0 (az _) (by unfold N0;omega)
 rcases aj k 2 with hk2|hk2
 case inr=>
  have e:k=2:=by omega
  subst e
  simp only[show ¬((2:Nat):Int)<2 by omega,if_false]
  rfl
 have c:(k:Int)<2:=by omega
 have hk1:IntKind.wrap .i64 ((k:Int)+1)=((k+1:Nat):Int):=bJ (by omega:k<1000) (by omega)
 have hK:=hK hk2
 obtain⟨kb,hkb⟩:∃ kb,kb=decide ((k:Int)=1):=⟨_,rfl⟩
 have VT:kb=decide (k=1):=by rw[hkb];congr 1;exact propext (by omega)
 have hgo:(if kb=true then 2 else 1)=k+1:=by
  rw[VT]
  by_cases e:k=1
  ·simp[e]
  ·have:k=0:=by omega
   simp[this]
 simp only[c,if_true,hk1,<-hkb]
 refine aZ (λm z r=>∃ (o:List SyS) (mo:Bool),z=((),(o,(mo,())))/\BZ g l kb o/\(mo=false->∀ t,Nxs g l t->okS kb o t=false)/\m=gT (bM g l) (λs=>s∈o)+(if mo=true then 1 else 0)/\r=some ((bM g l,()),())) ?_ N0 (gT (bM g l) (λs=>s∈goS g l k)+1) _ _ (by
  have:=iX (bM g l) (λs=>s∈goS g l k)
  unfold N0;omega) ⟨goS g l k,true,rfl,by rw[VT];exact DM g l k hk2,(λh=>by cases h),rfl,rfl⟩
 rintro m z r ⟨o,mo,rfl,hI,hno,rfl,rfl⟩ M hM
 have hol:o.length<=l.length:=by
  have hnd:o.Nodup:=hI.st.imp λ{a b} h e=>by subst e;rw[l6]at h;cases h
  have:=rU (λ(s:SyS) (c:Nat)=>∃ x,l[c]?=some x/\fQ g x.1 x.2.1=some s) (λs t c ⟨x,h1,h2⟩ ⟨y,h3,h4⟩=>by
   rw[h1]at h3;cases h3
   rw[h2]at h4;cases h4;rfl) l.length o hnd (λs hs=>by
   obtain⟨x,hx,hn⟩:=(hI.a s hs).1
   obtain⟨i,hi,rfl⟩:=eZ.1 hx
   exact⟨i,hi,_,List.getElem?_eq_getElem hi,hn⟩)
  exact this
 cases mo
 ·simp only[ap,if_false]
  have h1:=hI.fin (hno rfl)
  rw[hgo]at h1
  rw[h1.BG (L3 g l (k+1))]
  exact hK
 simp only[if_true]at hM |-
 refine a8 (λj=>((o,((jr g l kb o (false,0) j).1,())),((jr g l kb o (false,0) j).2,((j:Int),())))) (λ_=>some ((bM g l,()),())) l.length (λj hj L hL=>?_) N0 0 (az _) (by unfold N0;omega)
 rcases aj j l.length with h|h
 ·have cj:(j:Int)<(l.length:Int):=by omega
  have hL:=hL h
  have hj1:IntKind.wrap .i64 ((j:Int)+1)=((j+1:Nat):Int):=bJ h (by omega)
  rw[xu g l kb o (false,0) h]at hL
  simp only[cj,if_true,aB,aa,List.getElem?_eq_getElem h,zd,aD,hj1]
  generalize l[j]=x at *
  generalize jr g l kb o (false,0) j=B at *
  obtain⟨B1,B2⟩:=B
  rw[<-hL]
  clear hL hM hK
  by_cases ho:(0:Int)<((o.length:Nat):Int)
  ·have hw:IntKind.wrap .i64 ((o.length:Int)-1)=((o.length-1:Nat):Int):=by rw[bp (by omega) (by omega)];omega
   have xk:o.length-1<o.length:=by omega
   simp only[ho,if_true,hw,aB,aa,List.getElem?_eq_getElem xk]
   unfold okS PQ
   rw[List.getElem?_eq_getElem xk]
   generalize o[o.length-1]=y
   cases hn:fQ g x.1 x.2.1 with
   |none=>
    by_cases h2:(y.1 == kb)=true
    ·simp
    ·simp
   |some s=>
    simp only[ay,ap,if_false]
    cases h1:(s.1 == kb)
    ·simp
    ·by_cases h2:(y.1 == kb)=true
     ·by_cases h4:s.2<=y.2
      ·simp[h4,h2]
      ·cases B2
       ·simp[h4,h2]
       ·by_cases h3:s.2<B1.2
        ·simp[h3,h4,h2]
        ·simp[h3,h4,h2]
     ·cases B2
      ·simp[h2]
      ·by_cases h3:s.2<B1.2
       ·simp[h3,h2]
       ·simp[h3,h2]
  ·have:o=[]:=qU.1 (by omega)
   subst this
   simp only[ho,if_false]
   unfold okS PQ
   cases hn:fQ g x.1 x.2.1 with
   |none=>simp
   |some s=>
    simp only[ay,ap,if_false]
    cases h1:(s.1 == kb)
    ·simp
    ·cases B2
     ·simp
     ·by_cases h3:s.2<B1.2
      ·simp[h3]
      ·simp[h3]
 ·have cj:¬(j:Int)<(l.length:Int):=by omega
  have e:j=l.length:=by omega
  subst e
  simp only[cj,if_false]
  obtain⟨s1,s2⟩:=xv g l kb o (false,0) l.length (aw _)
  have hNx:∀ t,Nxs g l t->∃ k,∃ h:k<l.length,fQ g l[k].1 l[k].2.1=some t:=λt ⟨x,hx,hn⟩=>by
   obtain⟨i,hi,rfl⟩:=eZ.1 hx
   exact⟨i,hi,hn⟩
  cases hB:(jr g l kb o (false,0) l.length).2
  ·simp only[ap,if_false]
   refine hM (gT (bM g l) (λs=>s∈o)) _ _ (by omega) ⟨o,false,rfl,hI,λ_ t ht=>?_,rfl,rfl⟩
   obtain⟨i,hi,hn⟩:=hNx t ht
   exact s1 hB i hi t hi hn
  ·obtain⟨b1,b2,b3⟩:=s2 hB
   simp only[if_true,aO,bn]
   rw[if_pos (by omega),if_pos (by omega)]
   have hI':=hI.more b1 b2 λt ht hok=>by
    obtain⟨i,hi,hn⟩:=hNx t ht
    exact b3 i hi t hi hn hok
   have th:¬(jr g l kb o (false,0) l.length).1∈o:=λhm=>by
    have:=((tQ hI _).1 b1).2 _ hm
    rw[l6]at this;cases this
   have hlt:=oO (U:=bM g l) (P:=λs=>s∈o) (Q:=λs=>s∈o++[(jr g l kb o (false,0) l.length).1]) (λu _ hu=>au.2 (.inl hu)) (((ml g l).mem _).2 b2) th (au.2 (.inr (aK.2 rfl)))
   exact hM (gT (bM g l) (λs=>s∈o++[(jr g l kb o (false,0) l.length).1])+1) _ _ (by omega) ⟨_,true,rfl,hI',(λh=>by cases h),rfl,rfl⟩
end
noncomputable section
theorem wrap_u8{n:Int}(h:0<=n):IntKind.wrap .u8 n=n % 256:=by
 simp[IntKind.wrap,IntKind.bits,IntKind.signed]
def eB(a:Int)(i:Nat):Int:=((a.toNat / 2 ^ (8*i) % 256:Nat):Int)
def vH(x:ItS):List Int:=[eB x.1 1,eB x.1 0,eB x.2.1 1,eB x.2.1 0]++(List.range 8).map (eB x.2.2)
def cW(l:List ItS):List Int:=l.flatMap vH
theorem nI(x:ItS):(vH x).length=12:=by simp[vH]
theorem Ia{a b:Nat}{n:Nat}(h:∀ i,i<n->a / 2 ^ (8*i) % 256=b / 2 ^ (8*i) % 256)(ha:a<2 ^ (8*n))(hb:b<2 ^ (8*n)):a=b:=by
 induction n generalizing a b with
 |zero=>simp at ha hb;omega
 |succ n ih=>
  have h0:=h 0 (by omega)
  simp only[kO,kP,kQ]at h0
  have h1:a / 256=b / 256:=by
   have hp:(2:Nat) ^ (8*(n+1))=256*2 ^ (8*n):=by
    rw[show 8*(n+1)=8+8*n by omega,Nat.pow_add]
   refine ih (λi hi=>?_) ?_ ?_
   ·have:=h (i+1) (by omega)
    rw[show 8*(i+1)=8+8*i by omega,Nat.pow_add,<-nX,<-nX]at this
    exact this
   ·rw[hp]at ha
    exact(Nat.div_lt_iff_lt_mul (by omega)).2 (by rw[Nat.mul_comm];exact ha)
   ·rw[hp]at hb
    exact(Nat.div_lt_iff_lt_mul (by omega)).2 (by rw[Nat.mul_comm];exact hb)
  omega
theorem L4{x y:ItS}(hx:je x)(hy:je y)(rx:0<=x.1/\x.1<=12/\0<=x.2.1/\x.2.1<=20)(ry:0<=y.1/\y.1<=12/\0<=y.2.1/\y.2.1<=20)(h:vH x=vH y):x=y:=by
 obtain⟨x1,x2,x3⟩:=x
 obtain⟨y1,y2,y3⟩:=y
 unfold vH at h
 have e64:(2:Nat) ^ (8*8)=18446744073709551616:=by decide
 obtain⟨h1,h2⟩:=kM h (by simp)
 simp only[e8,and_true]at h1
 obtain⟨_,a1,_,a2⟩:=h1
 have b1:eB x1 0=x1:=by unfold eB;simp only[kO,kP,kQ];simp only at rx;omega
 have b2:eB y1 0=y1:=by unfold eB;simp only[kO,kP,kQ];simp only at ry;omega
 have b3:eB x2 0=x2:=by unfold eB;simp only[kO,kP,kQ];simp only at rx;omega
 have b4:eB y2 0=y2:=by unfold eB;simp only[kO,kP,kQ];simp only at ry;omega
 simp only at a1 a2 h2
 rw[b1,b2]at a1
 rw[b3,b4]at a2
 have hk:∀ i,i<8->x3.toNat / 2 ^ (8*i) % 256=y3.toNat / 2 ^ (8*i) % 256:=λi hi=>by
  have:=congrArg (λl=>l[i]?) h2
  simp only[List.getElem?_map,List.getElem?_range hi,dy,bh]at this
  unfold eB at this
  omega
 unfold je at hx hy
 simp only at hx hy
 have:=Ia (a:=x3.toNat) (b:=y3.toNat) (n:=8) hk (by rw[e64];omega) (by rw[e64];omega)
 rw[a1,a2,show x3=y3 by omega]
theorem nD:∀ {l m:List ItS},OkI l->OkI m->cW l=cW m->l=m
 |[],[],_,_,_=>rfl
 |[],y::m,_,_,h=>by
  have:=congrArg List.length h
  simp only[cW,kL,rh,ak,nI,bn]at this
  omega
 |x::l,[],_,_,h=>by
  have:=congrArg List.length h
  simp only[cW,kL,rh,ak,nI,bn]at this
  omega
 |x::l,y::m,hl,hm,h=>by
  have h:vH x++cW l=vH y++cW m:=by simpa [cW]using h
  obtain⟨h1,h2⟩:=kM h (by rw[nI,nI])
  have e:=L4 (hl.bd x bu) (hm.bd y bu) (hl.rg x bu) (hm.rg y bu) h1
  have:=nD (l:=l) (m:=m) ⟨λz hz=>hl.bd z (bB _ hz),λz hz=>hl.rg z (bB _ hz)⟩ ⟨λz hz=>hm.bd z (bB _ hz),λz hz=>hm.rg z (bB _ hz)⟩ h2
  rw[e,this]
theorem Ib(l:List ItS){j:Nat}(h:j<l.length):cW (l.take (j+1))=cW (l.take j)++vH l[j]:=by
 unfold cW
 rw[cJ _ _ h,gw]
 simp
theorem lv(l:List ItS):(cW l).length=l.length*12:=by
 induction l with
 |nil=>rfl
 |cons x l ih=>
  show(vH x++cW l).length=_
  rw[ak,nI,ih,aO]
  omega
theorem qI{a:Int}(h:0<=a)(i:Nat):IntKind.wrap .u8 (Int.fdiv a (2 ^ (8*i)))=eB a i:=by
 obtain⟨A,rfl⟩:∃ A:Nat,a=(A:Int):=⟨a.toNat,by omega⟩
 have e:((2:Int) ^ (8*i))=((2 ^ (8*i):Nat):Int):=by simp
 rw[e,nT _ (aB _),<-Int.natCast_ediv,wrap_u8 (aB _)]
 unfold eB
 rw[aa]
 omega
set_option maxHeartbeats 1000000 in
theorem Te{l:List ItS}(hl:OkI l)(hll:l.length<=100000):p46 N0 (l,())=some ((cW l,()),()):=by
 delta p46 Ld Ap Bd Wi
 have hw:IntKind.wrap .i64 (12*(l.length:Int))=((12*l.length:Nat):Int):=by rw[bp (by omega) (by omega)];simp
 simp only[aE]
 simp only[bx,decide_eq_true_eq,hw]
 rw[if_pos ⟨by omega,by omega⟩,if_pos (by omega)]
 refine a8 (λj=>((),(cW (l.take j),((j:Int),())))) (λ_=>some ((cW l,()),())) l.length (λj hj K hK=>?_) N0 0 (az _) (by unfold N0;omega)
 rcases aj j l.length with h|h
 ·have c:(j:Int)<(l.length:Int):=by omega
  have hK:=hK h
  have hj1:IntKind.wrap .i64 ((j:Int)+1)=((j+1:Nat):Int):=bJ h (by omega)
  have hkl:=lv (l.take j)
  rw[aL]at hkl
  rw[Ib l h]at hK
  have hx:=hl.bd _ (aN h)
  have hr:=hl.rg _ (aN h)
  simp only[c,if_true,aB,aa,List.getElem?_eq_getElem h,hj1]
  generalize l[j]=x at *
  generalize cW (l.take j)=out at *
  have hm8:Nat.min (Int.toNat 8) (IntKind.bits .i64)=8*1:=by decide
  have f1:IntKind.wrap .u8 x.1=eB x.1 0:=by
   rw[<-qI hr.1 0];simp
  have f2:IntKind.wrap .u8 x.2.1=eB x.2.1 0:=by
   rw[<-qI hr.2.2.1 0];simp
  simp only[show ¬(8:Int)<0 by omega,if_false,hm8,qI hr.1,qI hr.2.2.1,f1,f2,aO,bn]
  rw[if_pos (by omega),if_pos (by omega)]
  rw[<-hK]
  unfold vH
  have hol:(out++[eB x.1 1,eB x.1 0,eB x.2.1 1,eB x.2.1 0]).length=out.length+4:=by simp
  rw[<-aT]
  generalize out++[eB x.1 1,eB x.1 0,eB x.2.1 1,eB x.2.1 0]=o2 at *
  refine a8 (λi=>((),(BV o2 ((List.range i).map (eB x.2.2)),((i:Int),())))) (λ_=>K ((),(o2++(List.range 8).map (eB x.2.2),(((j+1:Nat):Int),())))) 8 (λi hi L hL=>?_) N0 0 (az _) (by unfold N0;omega)
  simp only[oT]at hL |-
  rcases aj i 8 with hi8|hi8
  ·have ci:(i:Int)<8:=by omega
   have hL:=hL hi8
   have hi1:IntKind.wrap .i64 ((i:Int)+1)=((i+1:Nat):Int):=bJ (by omega:i<1000) (by omega)
   have g1:IntKind.wrap .u64 (IntKind.wrap .i64 (8*(i:Int)))=((8*i:Nat):Int):=by
    rw[bp (by omega) (by omega),wrap_u64 ⟨by omega,by omega⟩];simp
   have g2:Nat.min (8*i) (IntKind.bits .u64)=8*i:=dl (by show 8*i<=64;omega)
   simp only[ci,if_true,g1,show ¬((8*i:Nat):Int)<0 by omega,if_false,aa,g2,qI hx.1,hi1,ak,bq,ia,aO,bn]
   rw[if_pos (by omega),if_pos (by omega)]
   rw[dY,cO,<-aT]at hL
   exact hL
  ·have ci:¬(i:Int)<8:=by omega
   have e:i=8:=by omega
   subst e
   simp only[ci,if_false]
 ·have c:¬(j:Int)<(l.length:Int):=by omega
  simp only[c,if_false]
  rw[bK h]
def dw(l:List ItS):List (List ItS)->Nat
 |[]=>0
 |x::r=>if x=l then 0 else dw l r+1
theorem FH(l:List ItS):∀ r,dw l r<=r.length
 |[]=>aw _
 |x::r=>by
  have:=FH l r
  unfold dw
  split
  ·omega
  ·rw[aO];omega
theorem qJ{l:List ItS}:∀ {r:List (List ItS)},dw l r<r.length↔l∈r
 |[]=>by simp[dw]
 |x::r=>by
  have:=qJ (l:=l) (r:=r)
  unfold dw
  split
  ·rename_i e;subst e;simp
  ·rename_i e
   have e':¬l=x:=λh=>e h.symm
   rw[aO,aI]
   simp only[e',false_or,<-this]
   omega
theorem vI{l:List ItS}:∀ {r:List (List ItS)} (h:dw l r<r.length),r[dw l r]=l
 |[],h=>by simp at h
 |x::r,h=>by
  have:=vI (l:=l) (r:=r)
  unfold dw at h
  by_cases e:x=l
  ·have h0:dw l (x::r)=0:=by unfold dw;rw[if_pos e]
   simp only[h0,List.getElem_cons_zero];exact e
  ·have h0:dw l (x::r)=dw l r+1:=by rw[dw,if_neg e]
   rw[if_neg e]at h
   simp only[h0,List.getElem_cons_succ]
   exact this (by rw[aO]at h;omega)
theorem zl{l:List ItS}:∀ {r:List (List ItS)},¬l∈r->dw l r=r.length
 |[],_=>rfl
 |x::r,h=>by
  have h1:¬x=l:=λe=>h (by rw[e];exact bu)
  rw[dw,if_neg h1,zl (λhm=>h (bB _ hm)),aO]
theorem vJ{l:List ItS}:∀ {r:List (List ItS)} (k:Nat) (h:k<r.length),k<dw l r->r[k]≠l
 |[],k,h,_=>by simp at h
 |x::r,k,h,hk=>by
  unfold dw at hk
  split at hk
  ·omega
  ·rename_i e
   cases k with
   |zero=>exact e
   |succ k=>exact vJ k (by simpa using h) (by omega)
theorem B0{l:List ItS}:∀ {r s:List (List ItS)},l∈r->dw l (r++s)=dw l r
 |[],s,h=>by cases h
 |x::r,s,h=>by
  show dw l (x::(r++s))=_
  unfold dw
  split
  ·rfl
  ·rename_i e
   rw[B0 (r:=r) (s:=s)]
   rcases aI.1 h with h|h
   ·exact absurd h.symm e
   ·exact h
def jb(items:List (List ItS))(l:List ItS):List (List ItS):=if l∈items then items else items++[l]
abbrev KMs:=List (List Int×Int)
def eqL(a b:List Int):Bool:=decide (a=b)
theorem xw(k k':List Int)(v:Int):∀ x:KMs,eX eqL k (eY eqL k' v x)=(decide (k=k')||eX eqL k x)
 |[]=>by
  unfold eY eX eqL
  by_cases h:k=k'
  ·simp[h]
  ·simp[h,eX]
 |p::r=>by
  have ih:=xw k k' v r
  unfold eY
  by_cases h1:k'=p.1
  ·have e:eqL k' p.1=true:=by unfold eqL;simp[h1]
   rw[e,cond_true]
   unfold eX
   by_cases h:k=k'
   ·simp[eqL,h]
   ·have:¬k=p.1:=λe=>h (e.trans h1.symm)
    simp[eqL,h,this]
  ·have e:eqL k' p.1=false:=by unfold eqL;simp[h1]
   rw[e,cond_false]
   unfold eX
   rw[ih]
   by_cases h:k=p.1
   ·simp[eqL,h]
   ·simp[eqL,h]
theorem xx(k k':List Int)(v:Int):∀ x:KMs,cR eqL k (eY eqL k' v x)=if k=k' then v else cR eqL k x
 |[]=>by
  unfold eY cR eqL
  by_cases h:k=k'
  ·simp[h]
  ·simp[h,cR]
 |p::r=>by
  have ih:=xx k k' v r
  unfold eY
  by_cases h1:k'=p.1
  ·have e:eqL k' p.1=true:=by unfold eqL;simp[h1]
   rw[e,cond_true]
   unfold cR
   by_cases h:k=k'
   ·simp[eqL,h]
   ·have:¬k=p.1:=λe=>h (e.trans h1.symm)
    simp[eqL,h,this]
  ·have e:eqL k' p.1=false:=by unfold eqL;simp[h1]
   rw[e,cond_false]
   unfold cR
   rw[ih]
   by_cases h:k=p.1
   ·have:¬k=k':=λe=>h1 (e.symm.trans h)
    simp[eqL,h,this]
    intro e;exact absurd e (λe=>h1 e.symm)
   ·simp[eqL,h]
structure qK(seen:KMs)(items:List (List ItS)):Prop where
 ok:∀ l∈items,OkI l
 has:∀ l,OkI l->(eX eqL (cW l) seen=true↔l∈items)
 get:∀ l∈items,cR eqL (cW l) seen=(dw l items:Int)
theorem Ic:qK [] []:=⟨(λl h=>by cases h),(λl _=>⟨(λh=>by cases h),(λh=>by cases h)⟩),(λl h=>by cases h)⟩
theorem qK.put{seen:KMs}{items:List (List ItS)}(h:qK seen items){l:List ItS}(hl:OkI l)(hn:¬l∈items):qK (eY eqL (cW l) (items.length:Int) seen) (items++[l]):=by
 refine⟨λm hm=>?_,λm hm=>?_,λm hm=>?_⟩
 ·rcases au.1 hm with hm|hm
  ·exact h.ok m hm
  ·rw[aK.1 hm];exact hl
 ·rw[xw,aJ,decide_eq_true_eq,h.has m hm,au,aK]
  constructor
  ·rintro(e|e)
   ·exact .inr (nD hm hl e)
   ·exact .inl e
  ·rintro(e|e)
   ·exact .inr e
   ·exact .inl (by rw[e])
 ·rw[xx]
  rcases au.1 hm with hm|hm
  ·have:¬cW m=cW l:=λe=>hn (by rw[<-nD (h.ok m hm) hl e];exact hm)
   rw[if_neg this,h.get m hm,B0 hm]
  ·rw[aK.1 hm,if_pos rfl]
   have key:∀ (r:List (List ItS)),¬l∈r->dw l (r++[l])=r.length:=by
    intro r
    induction r with
    |nil=>intro _;simp[dw]
    |cons x r ih=>
     intro hx
     have h1:¬x=l:=λe=>hx (by rw[e];exact bu)
     show dw l (x::(r++[l]))=_
     rw[dw,if_neg h1,ih (λhm=>hx (bB _ hm)),aO]
   rw[key items hn]
theorem L5{seen:KMs}{items:List (List ItS)}(h:qK seen items)(hil:items.length<=100000){l:List ItS}(hl:OkI l)(hll:l.length<=100000)(mv:List (List (SyS×Int))):
 ∃ Qy,p45 N0 (l,(seen,((items,mv),())))=some ((((dw l items:Nat):Int),()),(Qy,((jb items l,mv),())))/\qK Qy (jb items l):=by
 have hb:∀ k x,eX (λv6 v7=>decide (v6=v7)) k x=eX eqL k (x:KMs):=λk x=>rfl
 delta p45 Ap
 simp only[aE,bx,Te hl hll,aD,aO,bn]
 by_cases hm:l∈items
 ·have hh:=(h.has l hl).2 hm
  refine⟨seen,?_,?_⟩
  ·have hg:cR (λv6 v7=>decide (v6=v7)) (cW l) seen=(dw l items:Int):=h.get l hm
   rw[if_neg (by rw[hb,hh];simp),hg]
   unfold jb
   rw[if_pos hm]
  ·unfold jb;rw[if_pos hm];exact h
 ·have hh:eX eqL (cW l) seen=false:=by
   cases hq:eX eqL (cW l) seen
   ·rfl
   ·exact absurd ((h.has l hl).1 hq) hm
  refine⟨eY eqL (cW l) (items.length:Int) seen,?_,?_⟩
  ·rw[if_pos (by rw[hb,hh];rfl),if_pos (by omega),if_pos (by omega),zl hm]
   unfold jb
   rw[if_neg hm]
   rfl
  ·unfold jb;rw[if_neg hm];exact h.put hl hm
end
noncomputable section
theorem FI{A R:Type}{body:A->(A->Option R)->Option R}(I:Nat->A->(Option R->Prop)->Prop)
 (step:∀ m x Q,I m x Q->∀ k,(∀ m' y Q',m' < m->I m' y Q'->Q' (k y))->Q (body x k)):∀ n m x Q,m<n->I m x Q->Q (aC body n x):=by
 intro n
 induction n with
 |zero=>intro m x Q h;omega
 |succ n ih=>
  intro m x Q h hi
  rw[dP]
  exact step m x Q hi _ (λm' y Q' hm hi'=>ih m' y Q' (by omega) hi')
def tgt(g:GrS)(l:List ItS)(s:SyS):List ItS:=eN g (fo (goL g s l))
abbrev StB:=List (List ItS)×(List (List SyS)×List (List Int))
def cN(g:GrS)(l:List ItS)(items:List (List ItS)):Nat->List (List ItS)×List Int
 |0=>(items,[])
 |k+1=>match(bM g l)[k]? with
  |some s=>(jb (cN g l items k).1 (tgt g l s),(cN g l items k).2++[(dw (tgt g l s) (cN g l items k).1:Int)])
  |none=>cN g l items k
theorem sD(g:GrS)(l:List ItS)(items:List (List ItS)){k:Nat}(h:k<(bM g l).length):cN g l items (k+1)=
 (jb (cN g l items k).1 (tgt g l (bM g l)[k]),(cN g l items k).2++[(dw (tgt g l (bM g l)[k]) (cN g l items k).1:Int)]):=by
 rw[cN,List.getElem?_eq_getElem h]
def fk(g:GrS)(i:Nat)(s:StB):StB:=match s.1[i]? with
 |some l=>((cN g l s.1 (bM g l).length).1,(s.2.1++[bM g l],s.2.2++[(cN g l s.1 (bM g l).length).2]))
 |none=>s
def bfs(g:GrS):Nat->Nat->StB->Option StB
 |0,_,_=>none
 |m+1,i,s=>if s.1.length<=i then some s else if 60<s.1.length then none else bfs g m (i+1) (fk g i s)
theorem B3(items:List (List ItS))(l:List ItS):∃ e,jb items l=items++e/\e.length<=1:=by
 unfold jb
 split
 ·exact⟨[],by simp,by simp⟩
 ·exact⟨[l],rfl,by simp⟩
theorem L6(items:List (List ItS))(l:List ItS):(jb items l)[dw l items]?=some l:=by
 unfold jb
 split
 ·rename_i h
  have hlt:=qJ.2 h
  rw[List.getElem?_eq_getElem hlt,vI hlt]
 ·rename_i h
  rw[zl h,List.getElem?_append_right (aw _)]
  simp
theorem nJ(g:GrS)(l:List ItS)(items:List (List ItS)):∀ k,∃ e,(cN g l items k).1=items++e/\e.length<=k
 |0=>⟨[],by simp[cN],by simp⟩
 |k+1=>by
  obtain⟨e,h1,h2⟩:=nJ g l items k
  unfold cN
  split
  ·rename_i s hs
   obtain⟨e',h3,h4⟩:=B3 (cN g l items k).1 (tgt g l s)
   refine⟨e++e',?_,?_⟩
   ·show jb (cN g l items k).1 _=_
    rw[h3,h1,aT]
   ·rw[ak];omega
  ·exact⟨e,h1,by omega⟩
theorem tR(g:GrS)(l:List ItS)(items:List (List ItS)):∀ k,k<=(bM g l).length->(cN g l items k).2.length=k/\∀ j s,j<k->(bM g l)[j]?=some s->∃ t:Nat,(cN g l items k).2[j]?=some (t:Int)/\(cN g l items k).1[t]?=some (tgt g l s)
 |0,_=>⟨rfl,λj s h=>by omega⟩
 |k+1,hk=>by
  obtain⟨h1,h2⟩:=tR g l items k (by omega)
  have hkl:k<(bM g l).length:=by omega
  rw[sD g l items hkl]
  refine⟨by simp[h1],λj s hj hs=>?_⟩
  obtain⟨e,h3,_⟩:=B3 (cN g l items k).1 (tgt g l (bM g l)[k])
  by_cases hjk:j=k
  ·subst hjk
   rw[List.getElem?_eq_getElem hkl]at hs
   cases hs
   refine⟨_,?_,L6 _ _⟩
   rw[List.getElem?_append_right (by omega),h1]
   simp
  ·obtain⟨t,h4,h5⟩:=h2 j s (by omega) hs
   refine⟨t,?_,?_⟩
   ·rw[List.getElem?_append_left (by omega)];exact h4
   ·show(jb (cN g l items k).1 _)[t]?=_
    rw[h3,List.getElem?_append_left (List.getElem?_eq_some_iff.1 h5).1];exact h5
def OkL(items:List (List ItS)):Prop:=∀ l∈items,OkI l/\l.length<=273
theorem DN{g:GrS}(hg:Gs g){l:List ItS}(h:OkI l)(s:SyS):OkI (tgt g l s)/\(tgt g l s).length<=273:=by
 have h1:=tP (sB hg s h)
 exact⟨sw hg h1,lB (fA hg h1) λ_ _ _ ha=>ClG.inU hg h1 ha⟩
theorem FJ{g:GrS}(hg:Gs g){l:List ItS}(hl:l.length<=273)(s:SyS):(fo (goL g s l)).length<=273:=by
 have h1:=BP (goL g s l)
 have h2:=oU g s l
 omega
theorem zm{g:GrS}(hg:Gs g){l:List ItS}(hl:OkI l){items:List (List ItS)}(h:OkL items):∀ k,OkL (cN g l items k).1
 |0=>h
 |k+1=>by
  have ih:=zm hg hl h k
  unfold cN
  split
  ·rename_i s _
   intro m hm
   change m∈jb (cN g l items k).1 (tgt g l s)at hm
   unfold jb at hm
   split at hm
   ·exact ih m hm
   ·rcases au.1 hm with hm|hm
    ·exact ih m hm
    ·rw[aK.1 hm];exact DN hg hl s
  ·exact ih
structure OkB(g:GrS)(i:Nat)(s:StB):Prop where
 it:OkL s.1
 l1:s.2.1.length=i
 l2:s.2.2.length=i
 le:i<=s.1.length
 mx:s.1.length<=400
 row:∀ j,j<i->∃ l,s.1[j]?=some l/\s.2.1[j]?=some (bM g l)/\∃ to,s.2.2[j]?=some to/\to.length=(bM g l).length/\∀ (k:Nat) (y:SyS),(bM g l)[k]?=some y->∃ t:Nat,to[k]?=some (t:Int)/\s.1[t]?=some (tgt g l y)
theorem OkB.step{g:GrS}(hg:Gs g){i:Nat}{s:StB}(h:OkB g i s)(hi:i<s.1.length)(h60:s.1.length<=60):OkB g (i+1) (fk g i s):=by
 have hs:fk g i s=((cN g s.1[i] s.1 (bM g s.1[i]).length).1,(s.2.1++[bM g s.1[i]],s.2.2++[(cN g s.1[i] s.1 (bM g s.1[i]).length).2])):=by
  unfold fk;rw[List.getElem?_eq_getElem hi]
 have hl:=h.it _ (aN hi)
 obtain⟨e,he,hel⟩:=nJ g s.1[i] s.1 (bM g s.1[i]).length
 have hsl:=j6 g s.1[i]
 have hto:=tR g s.1[i] s.1 (bM g s.1[i]).length (aw _)
 rw[hs]
 have vX:∀ (t:Nat) m,s.1[t]?=some m->(cN g s.1[i] s.1 (bM g s.1[i]).length).1[t]?=some m:=λt m hm=>by
  rw[he,List.getElem?_append_left (List.getElem?_eq_some_iff.1 hm).1];exact hm
 refine⟨zm hg hl.1 h.it _,by simp[h.l1],by simp[h.l2],?_,?_,λj hj=>?_⟩
 ·show i+1<=(cN g s.1[i] s.1 (bM g s.1[i]).length).1.length
  rw[he,ak];omega
 ·show(cN g s.1[i] s.1 (bM g s.1[i]).length).1.length<=400
  rw[he,ak];omega
 ·by_cases e':j=i
  ·subst e'
   refine⟨s.1[j],vX _ _ (List.getElem?_eq_getElem hi),?_,(cN g s.1[j] s.1 (bM g s.1[j]).length).2,?_,hto.1,λk y hy=>hto.2 k y (List.getElem?_eq_some_iff.1 hy).1 hy⟩
   ·show(s.2.1++[bM g s.1[j]])[j]?=_
    rw[List.getElem?_append_right (by rw[h.l1];exact aw _),h.l1];simp
   ·show(s.2.2++[_])[j]?=_
    rw[List.getElem?_append_right (by rw[h.l2];exact aw _),h.l2];simp
  ·obtain⟨l,r1,r2,to,r3,r4,r5⟩:=h.row j (by omega)
   refine⟨l,vX _ _ r1,?_,to,?_,r4,λk y hy=>?_⟩
   ·show(s.2.1++[_])[j]?=_
    rw[List.getElem?_append_left (by rw[h.l1];omega)];exact r2
   ·show(s.2.2++[_])[j]?=_
    rw[List.getElem?_append_left (by rw[h.l2];omega)];exact r3
   ·obtain⟨t,r6,r7⟩:=r5 k y hy
    exact⟨t,r6,vX _ _ r7⟩
def st0(g:GrS):StB:=([eN g (mg g)],([],[]))
theorem zn{g:GrS}(hg:Gs g):OkB g 0 (st0 g):=by
 have h1:=sA hg
 refine⟨λl hl=>?_,rfl,rfl,az _,by simp[st0],λj hj=>by omega⟩
 rw[aK.1 hl]
 exact⟨sw hg h1,lB (fA hg h1) λ_ _ _ ha=>ClG.inU hg h1 ha⟩
theorem DO{g:GrS}(hg:Gs g):∀ (m i:Nat) (s s':StB),OkB g i s->bfs g m i s=some s'->OkB g s'.1.length s'/\∃ e,s'.1=s.1++e
 |0,i,s,s',_,h=>by cases h
 |m+1,i,s,s',hs,h=>by
  rw[bfs]at h
  split at h
  ·rename_i hle
   cases h
   have:=hs.le
   have e:s.1.length=i:=by omega
   rw[e]
   exact⟨hs,[],by simp⟩
  ·rename_i hle
   split at h
   ·cases h
   ·rename_i h60
    obtain⟨r1,e2,r2⟩:=DO hg m (i+1) (fk g i s) s' (hs.step hg (by omega) (by omega)) h
    refine⟨r1,?_⟩
    have hi:i<s.1.length:=by omega
    have hst:(fk g i s).1=(cN g s.1[i] s.1 (bM g s.1[i]).length).1:=by unfold fk;rw[List.getElem?_eq_getElem hi]
    obtain⟨e,he,_⟩:=nJ g s.1[i] s.1 (bM g s.1[i]).length
    exact⟨e++e2,by rw[r2,hst,he,aT]⟩
set_option maxHeartbeats 4000000 in
theorem PR{g:GrS}(hg:Gs g):∃ out ok,p42 N0 (g,(60,()))=some ((out,(ok,())),())/\(ok=true->bfs g 62 0 (st0 g)=some out):=by
 have h0:=sA hg
 delta p42 Ld Ap Bd Wi
 simp only[aE]
 simp only[bx,decide_eq_true_eq]
 rw[ae (S8 g)]
 simp only
 rw[ae (LS hg h0 (by simp[mg]))]
 simp only
 refine FI (λm z Q=>∃ (i:Nat) (s:StB),z=((([],([],[])),(s,())),((i:Int),()))/\OkB g i s/\i+m=62/\i<=61/\Q=λr=>∃ out ok,r=some ((out,(ok,())),())/\(ok=true->bfs g m i s=some out)) ?_ N0 62 _ _ (by unfold N0;omega) ⟨0,st0 g,rfl,zn hg,rfl,by omega,rfl⟩
 rintro m z Q ⟨i,s,rfl,hs,him,Zf,rfl⟩ K hK
 obtain⟨m,rfl⟩:∃ m',m=m' + 1:=⟨m-1,by omega⟩
 have hmx:=hs.mx
 rcases aj i s.1.length with hi|hi
 case inr=>
  have c:¬(i:Int)<(s.1.length:Int):=by omega
  simp only[c,if_false]
  exact⟨s,true,rfl,λ_=>by rw[bfs,if_pos hi]⟩
 have c:(i:Int)<(s.1.length:Int):=by omega
 simp only[c,if_true]
 by_cases h60:60<s.1.length
 ·have c2:(60:Int)<(s.1.length:Int):=by omega
  rw[if_pos c2]
  exact⟨s,false,rfl,λh=>by cases h⟩
 have c2:¬(60:Int)<(s.1.length:Int):=by omega
 rw[if_neg c2]
 have hi1:IntKind.wrap .i64 ((i:Int)+1)=((i+1:Nat):Int):=bJ hi (by omega)
 have hl:=hs.it _ (aN hi)
 have hst:fk g i s=((cN g s.1[i] s.1 (bM g s.1[i]).length).1,(s.2.1++[bM g s.1[i]],s.2.2++[(cN g s.1[i] s.1 (bM g s.1[i]).length).2])):=by
  unfold fk;rw[List.getElem?_eq_getElem hi]
 have VU:bfs g (m+1) i s=bfs g m (i+1) (fk g i s):=by rw[bfs,if_neg (by omega),if_neg h60]
 have wZ:=hK m ((([],([],[])),(fk g i s,())),(((i+1:Nat):Int),())) (λr=>∃ out ok,r=some ((out,(ok,())),())/\(ok=true->bfs g m (i+1) (fk g i s)=some out)) (by omega) ⟨i+1,fk g i s,rfl,hs.step hg hi (by omega),by omega,by omega,rfl⟩
 simp only[VU]
 rw[hst]at wZ |-
 have B4:s.1[i]?=some s.1[i]:=List.getElem?_eq_getElem hi
 have hl1:=hs.l1
 have hl2:=hs.l2
 have L7:=hs.it
 clear hK VU hs
 simp only[aB,if_true,aa,B4,hi1]
 generalize s.1[i]=l at *
 rw[ae (Td g (by omega:l.length<=100000))]
 simp only
 have hsl:=j6 g l
 obtain⟨out,ok,hn1,hn2⟩:=wZ
 refine⟨out,ok,Eq.trans ?_ hn1,hn2⟩
 refine a8 (λk=>((([],([],[])),(((cN g l s.1 k).1,(s.2.1,s.2.2)),())),((cN g l s.1 k).2,((k:Int),())))) (λ_=>K ((([],([],[])),(((cN g l s.1 (bM g l).length).1,(s.2.1++[bM g l],s.2.2++[(cN g l s.1 (bM g l).length).2])),())),(((i+1:Nat):Int),()))) (bM g l).length (λk hk L hL=>?_) N0 0 (az _) (by unfold N0;omega)
 have hto:=tR g l s.1 k hk
 rcases aj k (bM g l).length with hkl|hkl
 ·have ck:(k:Int)<((bM g l).length:Int):=by omega
  have hL:=hL hkl
  have hk1:IntKind.wrap .i64 ((k:Int)+1)=((k+1:Nat):Int):=bJ hkl (by omega)
  obtain⟨e,he,hel⟩:=nJ g l s.1 k
  have hgi:(cN g l s.1 k).1[i]?=some l:=by rw[he,List.getElem?_append_left hi];exact B4
  have hrl:(cN g l s.1 k).1.length<=1000:=by rw[he,ak];omega
  rw[sD g l s.1 hkl]at hL
  simp only[ck,if_true,aB,aa,hgi,List.getElem?_eq_getElem hkl]
  generalize (bM g l)[k]=y at *
  rw[ae (Ta hg y hl.1 (by omega))]
  simp only
  rw[ae (LS hg (tP (sB hg y hl.1)) (by have:=FJ hg hl.2 y;omega))]
  simp only
  have htl:=(DN hg hl.1 y).2
  have hro:=zm hg hl.1 L7 k
  have hT:eN g (fo (goL g y l))=tgt g l y:=rfl
  rw[hT]
  have Zg:=hto.1
  generalize tgt g l y=T at *
  generalize (cN g l s.1 k).1=R at *
  generalize (cN g l s.1 k).2=TO at *
  have hfl:=FH T R
  refine a8 (λn=>((([],([],[])),((R,(s.2.1,s.2.2)),(TO,()))),((if dw T R<n then(dw T R:Int)else -1),((n:Int),())))) (λ_=>K ((([],([],[])),(((cN g l s.1 (bM g l).length).1,(s.2.1++[bM g l],s.2.2++[(cN g l s.1 (bM g l).length).2])),())),(((i+1:Nat):Int),()))) (if dw T R<R.length then dw T R+1 else R.length) (λj hj M hM=>?_) N0 0 (az _) (by split <;> (unfold N0;omega))
  rcases aj j (if dw T R<R.length then dw T R+1 else R.length)with hjl|hjl
  ·have hM:=hM hjl
   have hjR:j<R.length:=by
    split at hjl <;> omega
   have hjf:¬dw T R<j:=by
    split at hjl <;> omega
   have cj:(j:Int)<(R.length:Int):=by omega
   have hj1:IntKind.wrap .i64 ((j:Int)+1)=((j+1:Nat):Int):=bJ hjR (by omega)
   have hRj:=(hro _ (aN hjR)).2
   simp only[cj,if_true,hjf,if_false,show(-1:Int)<0 by omega,decide_true,aB,aa,List.getElem?_eq_getElem hjR,hj1]
   rw[ae (LQ (by omega:R[j].length<=1000000))]
   simp only[decide_eq_true_eq]
   rw[<-hM]
   by_cases he:R[j]=T
   ·have hf:dw T R=j:=by
     rcases aj j (dw T R)with h|h
     ·exact absurd he (vJ j hjR h)
     ·omega
    rw[if_pos he,if_pos (by omega),hf]
   ·have hf:¬dw T R<j+1:=λh=>by
     have e2:dw T R=j:=by omega
     have:=vI (l:=T) (r:=R) (by omega)
     simp only[e2]at this
     exact he this
    rw[if_neg he,if_neg hf]
  ·have hje:j=(if dw T R<R.length then dw T R+1 else R.length):=by omega
   by_cases hin:dw T R<R.length
   ·rw[if_pos hin]at hje
    have lV:=qJ.1 hin
    have CF:jb R T=R:=by unfold jb;rw[if_pos lV]
    rw[CF]at hL
    have hf:dw T R<j:=by omega
    have H6:¬((dw T R:Nat):Int)<0:=by omega
    simp only[hf,if_true,H6,decide_false,ap,if_false,aO,bn,hk1]
    have yw:(if(TO.length+(0+1))*8<=140737488355328 then(if TO.length+(0+1)<=9223372036854775807 then L ((([],([],[])),((R,(s.2.1,s.2.2)),())),(TO++[((dw T R:Nat):Int)],(((k+1:Nat):Int),())))else none)else none)=K ((([],([],[])),(((cN g l s.1 (bM g l).length).1,(s.2.1++[bM g l],s.2.2++[(cN g l s.1 (bM g l).length).2])),())),(((i+1:Nat):Int),())):=by
     rw[if_pos (by omega),if_pos (by omega)];exact hL
    split
    ·exact yw
    ·exact yw
   ·rw[if_neg hin]at hje
    have hfe:dw T R=R.length:=by omega
    have lV:¬T∈R:=λh=>hin (qJ.2 h)
    have CF:jb R T=R++[T]:=by unfold jb;rw[if_neg lV]
    rw[CF,hfe]at hL
    have hf:¬dw T R<j:=by omega
    have cj:¬(j:Int)<(R.length:Int):=by omega
    simp only[cj,hf,if_false,ap,show(-1:Int)<0 by omega,if_true,aO,bn,hk1]
    rw[if_pos (by omega),if_pos (by omega),if_pos (by omega),if_pos (by omega)]
    exact hL
 ·have ck:¬(k:Int)<((bM g l).length:Int):=by omega
  have e:k=(bM g l).length:=by omega
  subst e
  simp only[ck,if_false,aO,bn]
  rw[if_pos (by omega),if_pos (by omega),if_pos (by omega),if_pos (by omega)]
end
noncomputable section
def mvR(L8:List (List SyS))(tos:List (List Int)):List (List (SyS×Int)):=List.zipWith (λa b=>a.zip b) L8 tos
theorem L9{L8:List (List SyS)}{tos:List (List Int)}(h:L8.length=tos.length)(a:List SyS)(b:List Int):mvR (L8++[a]) (tos++[b])=mvR L8 tos++[a.zip b]:=by
 unfold mvR
 rw[List.zipWith_append h]
 rfl
theorem Ma{a:List SyS}{b:List Int}(h:a.length=b.length)(x:SyS)(y:Int):(a++[x]).zip (b++[y])=a.zip b++[(x,y)]:=by
 rw[List.zip_append h]
 rfl
theorem DP{g:GrS}(hg:Gs g){l:List ItS}(h:OkI l):(eN g l).length<=273:=lB (fA hg h) λ_ _ _ ha=>ClG.inU hg h ha
set_option maxHeartbeats 4000000 in
theorem Tf{g:GrS}(hg:Gs g){a b:Int}(h31:p43 N0 (g,())=some (((0,(a,b)),()),())){s':StB}(hb:bfs g 62 0 (st0 g)=some s'):
 p12 N0 (g,())=some (((s'.1,mvR s'.2.1 s'.2.2),(0,())),()):=by
 have h0:=sA hg
 have h0l:(mg g).length<=100000:=by simp[mg]
 delta p12 Ld Ap Bd Wi
 simp only
 rw[ae h31]
 simp only
 rw[decide_true,ay,cond_false,ae (SP hg)]
 simp only
 rw[ae (S7 g)]
 simp only
 rw[ae (LY hg h0 h0l)]
 simp only
 obtain⟨VV,h45,Mb⟩:=L5 Ic (by simp) (sw hg h0) (by have:=DP hg h0;omega) []
 rw[ae h45]
 simp only[aE]
 simp only[bx,decide_eq_true_eq]
 have VW:jb [] (eN g (mg g))=[eN g (mg g)]:=by unfold jb;rw[if_neg (by simp)];rfl
 rw[VW]at Mb |-
 refine aZ (λm z r=>∃ (i:Nat) (s:StB) (seen:KMs),z=((([],[]),((s.1,mvR s.2.1 s.2.2),(seen,()))),((i:Int),()))/\OkB g i s/\qK seen s.1/\bfs g m i s=some s'/\r=some (((s'.1,mvR s'.2.1 s'.2.2),(0,())),())) ?_ N0 62 _ _ (by unfold N0;omega) ⟨0,st0 g,VV,rfl,zn hg,Mb,hb,rfl⟩
 rintro m z r ⟨i,s,seen,rfl,hs,VX,hbf,rfl⟩ K hK
 cases m with
 |zero=>cases hbf
 |succ m=>
 have hmx:=hs.mx
 have hle:=hs.le
 rw[bfs]at hbf
 rcases aj i s.1.length with hi|hi
 case inr=>
  have c:¬(i:Int)<(s.1.length:Int):=by omega
  rw[if_pos hi]at hbf
  cases hbf
  simp only[c,if_false]
 rw[if_neg (by omega)]at hbf
 by_cases h60:60<s.1.length
 ·rw[if_pos h60]at hbf;cases hbf
 rw[if_neg h60]at hbf
 have c:(i:Int)<(s.1.length:Int):=by omega
 have c2:¬(2000:Int)<(s.1.length:Int):=by omega
 have hi1:IntKind.wrap .i64 ((i:Int)+1)=((i+1:Nat):Int):=bJ hi (by omega)
 have hl:=hs.it _ (aN hi)
 have hst:fk g i s=((cN g s.1[i] s.1 (bM g s.1[i]).length).1,(s.2.1++[bM g s.1[i]],s.2.2++[(cN g s.1[i] s.1 (bM g s.1[i]).length).2])):=by
  unfold fk;rw[List.getElem?_eq_getElem hi]
 have Mc:=hs.step hg hi (by omega)
 have B4:s.1[i]?=some s.1[i]:=List.getElem?_eq_getElem hi
 have hl1:=hs.l1
 have hl2:=hs.l2
 have L7:=hs.it
 simp only[c,if_true,c2,if_false,aB,aa,B4,hi1]
 have hK2:∀ vK,qK vK (fk g i s).1->K ((([],[]),(((fk g i s).1,mvR (fk g i s).2.1 (fk g i s).2.2),(vK,()))),(((i+1:Nat):Int),()))=some (((s'.1,mvR s'.2.1 s'.2.2),(0,())),()):=λvK h2=>
  hK m _ _ (by omega) ⟨i+1,fk g i s,vK,rfl,Mc,h2,hbf,rfl⟩
 rw[hst,L9 (by rw[hl1,hl2])]at hK2
 clear hK Mc hbf hst
 generalize s.1[i]=l at *
 rw[ae (Tc g (by omega:l.length<=100000))]
 simp only
 have hsl:=j6 g l
 refine aZ (λm z r=>∃ (k:Nat) (seen:KMs),z=((([],[]),(((cN g l s.1 k).1,mvR s.2.1 s.2.2),(seen,()))),((((bM g l).take k).zip (cN g l s.1 k).2),((k:Int),())))/\k<=(bM g l).length/\qK seen (cN g l s.1 k).1/\m=(bM g l).length-k/\r=some (((s'.1,mvR s'.2.1 s'.2.2),(0,())),())) ?_ N0 (bM g l).length _ _ (by unfold N0;omega) ⟨0,seen,rfl,az _,VX,rfl,rfl⟩
 rintro m z r ⟨k,vK,rfl,hk,hse,rfl,rfl⟩ L hL
 have hto:=tR g l s.1 k hk
 have Zh:=hto.1
 rcases aj k (bM g l).length with hkl|hkl
 ·have ck:(k:Int)<((bM g l).length:Int):=by omega
  have hk1:IntKind.wrap .i64 ((k:Int)+1)=((k+1:Nat):Int):=bJ hkl (by omega)
  obtain⟨e,he,hel⟩:=nJ g l s.1 k
  have hgi:(cN g l s.1 k).1[i]?=some l:=by rw[he,List.getElem?_append_left hi];exact B4
  have hrl:(cN g l s.1 k).1.length<=1000:=by rw[he,ak];omega
  have hzl:(((bM g l).take k).zip (cN g l s.1 k).2).length<=1000:=by rw[od,aL];omega
  have hL2:=hL ((bM g l).length-(k+1))
  have hrs:=sD g l s.1 hkl
  have hzs:((bM g l).take (k+1)).zip (cN g l s.1 (k+1)).2=((bM g l).take k).zip (cN g l s.1 k).2++[((bM g l)[k],(dw (tgt g l (bM g l)[k]) (cN g l s.1 k).1:Int))]:=by
   rw[hrs,cJ _ _ hkl]
   exact Ma (by rw[aL];omega) _ _
  simp only[ck,if_true,aB,aa,hgi,List.getElem?_eq_getElem hkl,hk1,aO,bn]
  have hy1:=tP (sB hg (bM g l)[k] hl.1)
  have hy2:=FJ hg hl.2 (bM g l)[k]
  rw[ae (S9 hg (bM g l)[k] hl.1 (by omega))]
  simp only
  rw[ae (LY hg hy1 (by omega))]
  simp only
  have htg:=DN hg hl.1 (bM g l)[k]
  obtain⟨VY,e45,YM⟩:=L5 hse (by omega) htg.1 (by omega) (mvR s.2.1 s.2.2)
  have YN:p45 N0 (eN g (fo (goL g (bM g l)[k] l)),(vK,(((cN g l s.1 k).1,mvR s.2.1 s.2.2),())))=_:=e45
  rw[ae YN]
  simp only
  rw[if_pos (by omega),if_pos (by omega)]
  refine hL2 _ _ (by omega) ⟨k+1,VY,?_,by omega,?_,rfl,rfl⟩
  ·rw[hzs,hrs]
  ·rw[hrs];exact YM
 ·have ck:¬(k:Int)<((bM g l).length:Int):=by omega
  have e:k=(bM g l).length:=by omega
  subst e
  have hml:(mvR s.2.1 s.2.2).length<=1000:=by unfold mvR;rw[List.length_zipWith];omega
  rw[dj]
  simp only[ck,if_false,aO,bn]
  rw[if_pos (by omega),if_pos (by omega)]
  exact hK2 vK hse
end
noncomputable section
theorem Qz{g:Grm}(h:WfT y32 g):GOk g:=by
 obtain⟨⟨h1,h1'⟩,⟨h2,h2'⟩,⟨h3,h3'⟩,⟨h4,h4'⟩,h5⟩:=h
 exact⟨h4,λl hl=>(h4' l hl).2.1,h3,λp hp=>(h3' p hp).2.2.1.1,h1,h2⟩
theorem VZ{g:Grm}(h:WfT y32 g)(hf:few g=true):tv g:=by
 obtain⟨⟨h1,h1'⟩,⟨h2,h2'⟩,⟨h3,h3'⟩,⟨h4,h4'⟩,h5⟩:=h
 unfold few vj at hf
 simp only[ag,decide_eq_true_eq,cG]at hf
 obtain⟨⟨f1,f2⟩,f3,f4,f5,f6,f7,f8⟩:=hf
 have p7:∀ p∈g.2.2.1,p.2.2.1.length<=20/\p.2.2.2.2.2.length<=20/\p.2.1.length<=100:=λp hp=>by
  have:=f7 p hp
  unfold vk at this
  simpa using this
 refine⟨by omega,λr hr=>?_,by omega,λs hs=>⟨(h2' s hs).2,(h2' s hs).1⟩,by omega,λp hp=>⟨(h3' p hp).2.1.2,(h3' p hp).2.1.1⟩,λp hp=>by have:=(p7 p hp).1;omega,λp hp=>by have:=(p7 p hp).2.1;omega,by omega,λl hl=>by have:=f8 l hl;omega⟩
 have:=h1' r hr
 exact⟨this.1.2,this.1.1,this.2.2.2,this.2.2.1⟩
theorem YO{g:Grm}(h:WfT y32 g)(hf:few g=true)(h12:g.2.2.1.length<=12):Gs g:=by
 obtain⟨⟨h1,h1'⟩,⟨h2,h2'⟩,⟨h3,h3'⟩,⟨h4,h4'⟩,h5⟩:=h
 unfold few vj at hf
 simp only[ag,decide_eq_true_eq,cG]at hf
 obtain⟨⟨f1,f2⟩,f3,f4,f5,f6,f7,f8⟩:=hf
 refine⟨f3,h12,λp hp=>?_,λp hp y hy=>?_,h5⟩
 ·have:=f7 p hp
  unfold vk at this
  simp at this
  omega
 ·exact((h3' p hp).2.2.1.2 y hy).2
theorem PS{g:Grm}(h:WfT y32 g):∃ b,p41 N0 (g,())=some ((b,()),())/\(b=true->few g=true/\g.2.2.1.length<=12/\(∀ r∈g.1,r.2.2.length<=12)/\(eA g).1=0):=by
 have hgk:=Qz h
 have hrs:=hgk.rs
 delta p41 Ld Bd Wi
 simp only[aE]
 simp only[bx,decide_eq_true_eq]
 rw[ae (SJ g hgk)]
 simp only
 cases hf:few g
 ·exact⟨false,rfl,λh=>by cases h⟩
 simp only[ay,ap,if_false,decide_eq_true_eq]
 by_cases hp:(12:Int)<(g.2.2.1.length:Int)
 ·rw[if_pos hp]
  exact⟨false,rfl,λh=>by cases h⟩
 rw[if_neg hp]
 have ok:=VZ h hf
 refine FI (λm z Q=>∃ j:Nat,z=((),((j:Int),()))/\j<=g.1.length/\m=g.1.length-j/\(∀ k (h:k<g.1.length),k<j->g.1[k].2.2.length<=12)/\Q=λr=>∃ b,r=some ((b,()),())/\(b=true->True/\g.2.2.1.length<=12/\(∀ r∈g.1,r.2.2.length<=12)/\(eA g).1=0)) ?_ N0 g.1.length _ _ (by have:=gd hrs;omega) ⟨0,rfl,az _,rfl,λk _ h=>by omega,rfl⟩
 rintro m z Q ⟨j,rfl,hj,rfl,fK,rfl⟩ K hK
 rcases aj j g.1.length with hjl|hjl
 ·have cj:(j:Int)<(g.1.length:Int):=by omega
  simp only[cj,if_true,aB,aa,List.getElem?_eq_getElem hjl,aX hjl hrs]
  by_cases hr:(12:Int)<(g.1[j].2.2.length:Int)
  ·rw[if_pos hr]
   exact⟨false,rfl,λh=>by cases h⟩
  ·rw[if_neg hr]
   refine hK (g.1.length-(j+1)) _ _ (by omega) ⟨j+1,rfl,hjl,rfl,λk hk hkj=>?_,rfl⟩
   by_cases e:k=j
   ·subst e;omega
   ·exact fK k hk (by omega)
 ·have cj:¬(j:Int)<(g.1.length:Int):=by omega
  simp only[cj,if_false]
  rw[ae (Lk ok)]
  simp only
  refine⟨_,rfl,λhb=>⟨trivial,by omega,λr hr=>?_,by simpa using hb⟩⟩
  obtain⟨k,hk,rfl⟩:=eZ.1 hr
  exact fK k hk (by omega)
structure Trd(g:Grm)(w:StB):Prop where
 gs:Gs g
 ok:tv g
 r12:∀ r∈g.1,r.2.2.length<=12
 e0:(eA g).1=0
 bf:bfs g 62 0 (st0 g)=some w
 fw:few g=true
theorem PT{g:Grm}(h:WfT y32 g):∃ w b,p11 N0 (g,())=some ((w,(b,())),())/\(b=true->Trd g w):=by
 obtain⟨b,h1,h2⟩:=PS h
 unfold p11
 simp only
 rw[ae h1]
 simp only
 cases b
 ·exact⟨_,false,rfl,λh=>by cases h⟩
 ·obtain⟨f1,f2,f3,f4⟩:=h2 rfl
  have hg:=YO h f1 f2
  obtain⟨out,ok,e1,e2⟩:=PR hg
  rw[ay,cond_false,ae e1]
  exact⟨out,ok,rfl,λhb=>⟨hg,VZ h f1,f3,f4,e2 hb,f1⟩⟩
theorem Trd.r20{g:Grm}{w:StB}(t:Trd g w):g.1.length<=20:=by
 have hf:=t.fw
 unfold few vj at hf
 simp only[ag,decide_eq_true_eq,cG]at hf
 exact hf.1.1
theorem Trd.p31{g:Grm}{w:StB}(t:Trd g w):∃ a b,p43 N0 (g,())=some (((0,(a,b)),()),()):=by
 have:=Lj t.ok t.r12
 rw[show eA g=((eA g).1,((eA g).2.1,(eA g).2.2))from rfl,t.e0]at this
 exact⟨_,_,this⟩
theorem Trd.p18{g:Grm}{w:StB}(t:Trd g w):p12 N0 (g,())=some (((w.1,mvR w.2.1 w.2.2),(0,())),()):=by
 obtain⟨a,b,h⟩:=t.p31
 exact Tf t.gs h t.bf
theorem Trd.okB{g:Grm}{w:StB}(t:Trd g w):OkB g w.1.length w:=(DO t.gs _ _ _ _ (zn t.gs) t.bf).1
theorem DR(s:List (List ItS)×List (List (SyS×Int))):p14 N0 (s,())=some ((((s.1.length:Nat):Int),()),()):=rfl
theorem PU{g:Grm}{w:StB}(hk:OkB g w.1.length w):(mvR w.2.1 w.2.2).length=w.1.length:=by
 unfold mvR;rw[List.length_zipWith,hk.l1,hk.l2,Nat.min_self]
theorem qL{g:Grm}{w:StB}(hk:OkB g w.1.length w){i:Nat}(hi:i<w.1.length):∃ (l:List ItS) (sy:List SyS) (to:List Int),w.1[i]?=some l/\w.2.1[i]?=some sy/\w.2.2[i]?=some to/\(mvR w.2.1 w.2.2)[i]?=some (sy.zip to)/\to.length=sy.length/\sy=bM g l/\l.length<=273:=by
 obtain⟨l,r1,r2,to,r3,r4,_⟩:=hk.row i hi
 refine⟨l,_,to,r1,r2,r3,?_,r4,rfl,(hk.it l (List.mem_of_getElem? r1)).2⟩
 unfold mvR
 rw[List.getElem?_zipWith,r2,r3]
theorem FK{sy:List SyS}{to:List Int}(h:to.length=sy.length){k:Nat}(hk:k<sy.length):(sy.zip to)[k]?=some (sy[k],to[k]):=by
 rw[List.getElem?_eq_getElem (by rw[od];omega),List.getElem_zip]
end
noncomputable section
def mK(x:SyS):List SyS->Nat
 |[]=>0
 |y::r=>if y=x then 0 else mK x r+1
theorem lC{x:SyS}:∀ {l:List SyS},x∈l->l[mK x l]?=some x
 |[],h=>by cases h
 |y::r,h=>by
  unfold mK
  split
  ·rename_i e;subst e;rfl
  ·rename_i e
   rw[List.getElem?_cons_succ]
   exact lC ((aI.1 h).resolve_left λe'=>e e'.symm)
theorem mn{x:SyS}:∀ {l:List SyS},¬x∈l->mK x l=l.length
 |[],_=>rfl
 |y::r,h=>by
  have h1:¬y=x:=λe=>h (by rw[e];exact bu)
  rw[mK,if_neg h1,mn (λhm=>h (bB _ hm)),aO]
theorem zo{x:SyS}:∀ {l:List SyS} (k:Nat) (h:k<l.length),k<mK x l->l[k]≠x
 |[],k,h,_=>by simp at h
 |y::r,k,h,hk=>by
  unfold mK at hk
  split at hk
  ·omega
  ·rename_i e
   cases k with
   |zero=>exact e
   |succ k=>exact zo k (by simpa using h) (by omega)
theorem zp{x:SyS}:∀ {l:List SyS},mK x l<=l.length
 |[]=>aw _
 |y::r=>by
  have:=zp (x:=x) (l:=r)
  unfold mK
  split
  ·omega
  ·rw[aO];omega
def goN(sy:List SyS)(to:List Int)(x:SyS):Int:=match to[mK x sy]? with
 |some t=>t
 |none=>-1
def goW(w:StB)(st:Int)(x:SyS):Int:=if st<0 then -1 else match w.2.1[st.toNat]?,w.2.2[st.toNat]? with
 |some sy,some to=>goN sy to x
 |_,_=>-1
theorem Me{y s:SyS}(h:y=s):(bif(y.1 == s.1)then decide (y.2=s.2)else false)=true:=mj.2 (by rw[h])
theorem Mf{y s:SyS}(h:¬y=s):(bif(y.1 == s.1)then decide (y.2=s.2)else false)=false:=by
 cases hq:(bif(y.1 == s.1)then decide (y.2=s.2)else false)
 ·rfl
 ·have:=mj.1 hq
  cases this
  exact absurd rfl h
theorem zq{g:Grm}{w:StB}(hk:OkB g w.1.length w){st:Int}(h0:0<=st)(h1:st<(w.1.length:Int))(x:SyS):∃ (l:List ItS) (sy:List SyS) (to:List Int),w.1[st.toNat]?=some l/\w.2.1[st.toNat]?=some sy/\w.2.2[st.toNat]?=some to/\(mvR w.2.1 w.2.2)[st.toNat]?=some (sy.zip to)/\to.length=sy.length/\sy=bM g l/\l.length<=273/\goW w st x=goN sy to x:=by
 obtain⟨l,sy,to,g1,g2,g3,g4,g5,g6,g7⟩:=qL hk (i:=st.toNat) (by omega)
 refine⟨l,sy,to,g1,g2,g3,g4,g5,g6,g7,?_⟩
 unfold goW
 rw[if_neg (by omega),g2,g3]
theorem oV{g:Grm}{w:StB}(hk:OkB g w.1.length w){st:Int}(h:st<0\/(w.1.length:Int)<=st)(x:SyS):goW w st x=-1:=by
 unfold goW
 by_cases h0:st<0
 ·rw[if_pos h0]
 ·rw[if_neg h0,List.getElem?_eq_none (by rw[hk.l1];omega)]
theorem Tg{g:Grm}{w:StB}(hk:OkB g w.1.length w)(st:Int)(x:SyS):p16 N0 ((w.1,mvR w.2.1 w.2.2),(st,(x,())))=some ((goW w st x,()),()):=by
 have hml:=PU hk
 delta p16 Ld Bd Wi
 simp only[aE]
 simp only[bx,decide_eq_true_eq]
 by_cases h0:st<0
 ·rw[if_pos h0,if_pos trivial,oV hk (.inl h0)]
 rw[if_neg h0]
 by_cases h1:((mvR w.2.1 w.2.2).length:Int)<=st
 ·rw[if_pos h1,oV hk (.inr (by rw[hml]at h1;exact h1))]
 rw[if_neg h1]
 rw[hml]at h1
 obtain⟨l,sy,to,g1,g2,g3,g4,g5,g6,g7,g8⟩:=zq hk (by omega:0<=st) (by omega) x
 have hsl:=j6 g l
 rw[<-g6]at hsl
 have hp:=zp (x:=x) (l:=sy)
 have h00:0<=st:=by omega
 have hzl:(sy.zip to).length=sy.length:=by rw[od];omega
 simp only[h00,if_true,g4,hzl]
 refine a8 (λk=>((),((k:Int),()))) (λ_=>some ((goW w st x,()),())) (mK x sy) (λk hk' L hL=>?_) N0 0 (az _) (by unfold N0;omega)
 rw[g8]at hL |-
 rcases aj k sy.length with hkl|hkl
 ·have ck:(k:Int)<(sy.length:Int):=by omega
  have hk1:IntKind.wrap .i64 ((k:Int)+1)=((k+1:Nat):Int):=bJ hkl (by omega)
  have hkt:k<to.length:=by omega
  simp only[ck,if_true,aB,aa,FK g5 hkl,hk1]
  rcases aj k (mK x sy)with hlt|hge
  ·have hf:=Mf (zo k hkl hlt)
   simp only[<-bx,hf,cond_false]
   exact hL hlt
  ·have e:k=mK x sy:=by omega
   have he:sy[k]=x:=by
    by_cases hm:x∈sy
    ·have:=lC hm
     rw[<-e,List.getElem?_eq_getElem hkl]at this
     exact dz this
    ·have:=mn hm
     omega
   have ht:=Me he
   simp only[<-bx,ht,cond_true]
   unfold goN
   rw[<-e,List.getElem?_eq_getElem hkt]
   exact if_pos trivial
 ·have ck:¬(k:Int)<(sy.length:Int):=by omega
  simp only[ck,if_false]
  unfold goN
  rw[List.getElem?_eq_none (by omega)]
theorem DS(g:GrS)(hg:Gs g):eN g []=[]:=by
 have h0:OkI []:=⟨(λx h=>by cases h),(λx h=>by cases h)⟩
 have hc:Can (ClG g []) []:=Fl.congr λp d o=>⟨λh=>h.elim,λh=>Cl.least (A:=λ_ _ _=>False) (λp d o hb=>Dv hb) (λp d o hs=>by
  obtain⟨_,hs⟩:=hs
  cases o with
  |none=>obtain⟨_,_,h,_⟩:=hs;exact h
  |some b=>obtain⟨_,_,_,h|h⟩:=hs <;> exact h.1) h⟩
 exact(fA hg h0).BG hc
theorem B5{g:GrS}(hg:Gs g){l:List ItS}{x:SyS}(h:¬Nxs g l x):tgt g l x=[]:=by
 have:goL g x l=[]:=by
  cases hq:goL g x l with
  |nil=>rfl
  |cons y r=>
   obtain⟨z,hz,hn,_⟩:=mh.1 (show y∈goL g x l by rw[hq];exact bu)
   exact absurd ⟨z,hz,hn⟩ h
 unfold tgt
 rw[this]
 exact DS g hg
theorem Mg{g:GrS}(hg:Gs g){l:List ItS}(hl:OkI l){x:SyS}(h:Nxs g l x):tgt g l x≠[]:=by
 obtain⟨z,hz,hn⟩:=h
 have hok:=sB hg x hl
 have hm:(z.1,(z.2.1+1,z.2.2))∈goL g x l:=mh.2 ⟨z,hz,hn,rfl⟩
 have h1:=((ja hok.bd).at' z.1 (z.2.1+1) none).2 ⟨_,hm,rfl,rfl⟩
 have h2:=((fA hg (tP hok)).at' z.1 (z.2.1+1) none).2 (.base h1)
 obtain⟨y,hy,_⟩:=h2
 intro e
 rw[show eN g (fo (goL g x l))=tgt g l x from rfl,e]at hy
 cases hy
def Th(w:StB)(st:Int)(L:List ItS):Prop:=(st=-1/\L=[])\/∃ i:Nat,st=(i:Int)/\w.1[i]?=some L/\L≠[]
theorem Th.next{g:Grm}{w:StB}(hg:Gs g)(hk:OkB g w.1.length w){st:Int}{L:List ItS}(h:Th w st L)(x:SyS):Th w (goW w st x) (tgt g L x):=by
 rcases h with⟨rfl,rfl⟩|⟨i,rfl,h1,h2⟩
 ·left
  refine⟨oV hk (.inl (by omega)) x,B5 hg ?_⟩
  rintro⟨z,hz,_⟩;cases hz
 ·have hi:=(List.getElem?_eq_some_iff.1 h1).1
  obtain⟨l,sy,to,g1,g2,g3,g4,g5,g6,g7,g8⟩:=zq hk (by omega:0<=(i:Int)) (by omega) x
  rw[aa]at g1 g2 g3
  rw[h1]at g1
  cases g1
  have hL:=(hk.it L (List.mem_of_getElem? h1)).1
  rw[g8]
  by_cases hm:Nxs g L x
  ·right
   have hms:x∈sy:=by rw[g6];exact((ml g L).mem x).2 hm
   have hp:=lC hms
   obtain⟨l',r1,r2,to',r3,r4,r5⟩:=hk.row i hi
   rw[h1]at r1
   cases r1
   rw[g3]at r3
   cases r3
   rw[g6]at hp
   obtain⟨t,t1,t2⟩:=r5 _ _ hp
   refine⟨t,?_,t2,Mg hg hL hm⟩
   unfold goN
   rw[g6,t1]
  ·left
   have hms:¬x∈sy:=by rw[g6];exact λh=>hm (((ml g L).mem x).1 h)
   refine⟨?_,B5 hg hm⟩
   unfold goN
   rw[mn hms,List.getElem?_eq_none (by omega)]
theorem Mh{g:Grm}{P:List ItS->Prop}(ht:∀ l s,P (tgt g l s)){l:List ItS}{items:List (List ItS)}(h:∀ m∈items,P m):∀ k,∀ m∈(cN g l items k).1,P m
 |0=>h
 |k+1=>by
  have ih:=Mh ht (l:=l) h k
  unfold cN
  split
  ·rename_i s _
   intro m hm
   change m∈jb (cN g l items k).1 (tgt g l s)at hm
   unfold jb at hm
   split at hm
   ·exact ih m hm
   ·rcases au.1 hm with hm|hm
    ·exact ih m hm
    ·rw[aK.1 hm];exact ht l s
  ·exact ih
theorem QA{g:Grm}{P:List ItS->Prop}(ht:∀ l s,P (tgt g l s)):∀ (m i:Nat) (s s':StB),(∀ l∈s.1,P l)->bfs g m i s=some s'->∀ l∈s'.1,P l
 |0,i,s,s',_,h=>by cases h
 |m+1,i,s,s',hs,h=>by
  rw[bfs]at h
  split at h
  ·cases h;exact hs
  ·split at h
   ·cases h
   ·refine QA ht m (i+1) (fk g i s) s' ?_ h
    unfold fk
    split
    ·exact Mh ht hs _
    ·exact hs
def RgP(g:Grm)(l:List ItS):Prop:=∀ x∈l,0<=x.1/\x.1<=(g.2.2.1.length:Int)
theorem xy{g:Grm}{l:List ItS}(h:RgP g l):RgP g (eN g l):=by
 intro x hx
 obtain⟨p,d,_,_,ha,e1,_⟩:=gU.1 hx
 rw[e1]
 have key:∀ {p d:Int} {o:Option Nat},ClG g l p d o->0<=p/\p<=(g.2.2.1.length:Int):=by
  intro p d o hc
  have hst:∀ {p d q:Int},stG g p d q->0<=q/\q<=(g.2.2.1.length:Int):=λ⟨k,pr,e,h1,_⟩=>by
   have:=(List.getElem?_eq_some_iff.1 h1).1
   omega
  unfold ClG at hc
  cases hc with
  |base hb=>
   obtain⟨z,hz,h1,_⟩:=hb.there
   have:=h z hz
   rw[h1]at this;exact this
  |there _ h2=>exact hst h2
  |first _ h2 _=>exact hst h2
  |look _ h2 _=>exact hst h2
 exact key ha
theorem Ti{g:Grm}(hg:Gs g)(l:List ItS)(s:SyS):RgP g (tgt g l s):=by
 refine xy λx hx=>?_
 have hm:∃ y∈goL g s l,y.1=x.1:=by
  have key:∀ (m:List ItS),∀ y∈fo m,∃ z∈m,z.1=y.1:=by
   have YP:∀ (z:ItS) (o:List ItS),∀ y∈mJ z o,y.1=z.1\/∃ u∈o,u.1=y.1:=by
    intro z o
    induction o with
    |nil=>intro y hy;rw[show mJ z []=[z]from rfl,aK]at hy;rw[hy];exact .inl rfl
    |cons u o ih=>
     intro y hy
     unfold mJ at hy
     split at hy
     ·rcases aI.1 hy with rfl|hy
      ·exact .inr ⟨_,bu,rfl⟩
      ·rcases ih y hy with h|⟨v,hv,e⟩
       ·exact .inl h
       ·exact .inr ⟨v,bB _ hv,e⟩
     ·split at hy
      ·rcases aI.1 hy with rfl|hy
       ·exact .inr ⟨u,bu,rfl⟩
       ·exact .inr ⟨y,bB _ hy,rfl⟩
      ·rcases aI.1 hy with rfl|hy
       ·exact .inl rfl
       ·exact .inr ⟨y,hy,rfl⟩
   intro m
   have gen:∀ (m o:List ItS),∀ y∈m.foldl (λo x=>mJ x o) o,(∃ z∈m,z.1=y.1)\/∃ u∈o,u.1=y.1:=by
    intro m
    induction m with
    |nil=>intro o y hy;exact .inr ⟨y,hy,rfl⟩
    |cons z m ih=>
     intro o y hy
     rcases ih (mJ z o) y hy with⟨v,hv,e⟩|⟨u,hu,e⟩
     ·exact .inl ⟨v,bB _ hv,e⟩
     ·rcases YP z o u hu with h|⟨v,hv,e'⟩
      ·exact .inl ⟨z,bu,h.symm.trans e⟩
      ·exact .inr ⟨v,hv,e'.trans e⟩
   intro y hy
   rcases gen m [] y hy with h|⟨u,hu,_⟩
   ·exact h
   ·cases hu
  exact key _ x hx
 obtain⟨y,hy,e⟩:=hm
 obtain⟨z,hz,hn,rfl⟩:=mh.1 hy
 have h1:=vB hn
 have:=vA (g:=g) (q:=z.1) (λe=>by rw[e]at h1;simp at h1)
 rw[<-e]
 exact this
theorem DT{g:Grm}{w:StB}(t:Trd g w):∀ l∈w.1,RgP g l:=QA (λl s=>Ti t.gs l s) _ _ _ _ (λl hl=>by
 rw[aK.1 hl]
 refine xy λx hx=>?_
 rw[aK.1 hx]
 exact⟨by show(0:Int)<=(g.2.2.1.length:Int);omega,im _⟩) t.bf
def fq(g:Grm)(x:ItS):Bool:=decide (x.2.1=((di g x.1).1.length:Int))
theorem PV{g:Grm}{q:Int}(h:0<=q/\q<=(g.2.2.1.length:Int)):(di g q).2=true:=by
 unfold di
 split
 ·split <;> rfl
 ·split
  ·rfl
  ·omega
theorem Tj{g:Grm}{x:ItS}(h:0<=x.1/\x.1<=(g.2.2.1.length:Int)):p52 N0 (g,(x,()))=some ((fq g x,()),()):=by
 unfold p52
 simp only[aE]
 rw[ae (zb g x.1)]
 simp only
 rw[PV h,cond_true]
 rfl
theorem ta{α:Type}(p:α->Bool)(l:List α){j:Nat}(h:j<l.length):(l.take (j+1)).filter p=(l.take j).filter p++(if p l[j]=true then [l[j]]else []):=by
 rw[cJ _ _ h,jx]
 congr 1
 cases hp:p l[j]
 ·simp[hp]
 ·simp[hp]
theorem Tk{g:Grm}{w:StB}(t:Trd g w){i:Nat}{L:List ItS}(h:w.1[i]?=some L):p15 N0 ((w.1,mvR w.2.1 w.2.2),(g,((i:Int),())))=some ((((L.filter (fq g)).map (·.1)),(((L.filter (fq g)).map (·.2.2)),())),()):=by
 have hi:=(List.getElem?_eq_some_iff.1 h).1
 have hLm:=List.mem_of_getElem? h
 have hrg:=DT t L hLm
 have hLl:=(t.okB.it L hLm).2
 delta p15 Ld Ap Bd Wi
 simp only[aE]
 simp only[bx,decide_eq_true_eq]
 have h1:¬(i:Int)<0:=by omega
 have h2:¬(w.1.length:Int)<=(i:Int):=by omega
 simp only[h1,if_false,h2,aB,if_true,aa,h]
 refine a8 (λj=>((),(((L.take j).filter (fq g)).map (·.1),(((L.take j).filter (fq g)).map (·.2.2),((j:Int),()))))) (λ_=>some ((((L.filter (fq g)).map (·.1)),(((L.filter (fq g)).map (·.2.2)),())),())) L.length (λj hj K hK=>?_) N0 0 (az _) (by unfold N0;omega)
 rcases aj j L.length with hjl|hjl
 ·have c:(j:Int)<(L.length:Int):=by omega
  have hK:=hK hjl
  have hj1:IntKind.wrap .i64 ((j:Int)+1)=((j+1:Nat):Int):=bJ hjl (by omega)
  have hfl:((L.take j).filter (fq g)).length<=j:=bE (fB _ _) (by rw[aL];omega)
  rw[ta _ _ hjl]at hK
  simp only[c,if_true,aB,aa,List.getElem?_eq_getElem hjl,hj1]
  rw[ae (Tj (hrg _ (aN hjl)))]
  simp only
  cases hw:fq g L[j]
  ·rw[hw]at hK
   simpa using hK
  ·rw[hw]at hK
   simp only[if_true,bq,aO,bn]
   rw[if_pos (by omega),if_pos (by omega),if_pos (by omega),if_pos (by omega)]
   simpa using hK
 ·have c:¬(j:Int)<(L.length:Int):=by omega
  simp only[c,if_false]
  rw[bK hjl]
end
noncomputable section
theorem xz{α:Type}{E:Nat->α->Int}:∀ {l:List α} {i:Nat},cE E i l=none->∀ k a,l[k]?=some a->E (i+k) a=0:=by
 intro l
 induction l with
 |nil=>intro i _ k a h;simp at h
 |cons x r ih=>
  intro i h k a hk
  simp only[cE]at h
  split at h
  ·rename_i h0
   cases k with
   |zero=>simp at hk;subst hk;exact h0
   |succ k=>simp at hk;rw[show i+(k+1)=i+1+k by omega];exact ih h k a hk
  ·cases h
theorem qM{g:Grm}(h:(eA g).1=0):∀ p∈g.2.2.1,(0<=p.1/\p.1<(g.2.1.length:Int))/\∀ y∈p.2.2.1,(y.1=false->0<=y.2/\y.2<(g.1.length:Int))/\(y.1=true->0<=y.2/\y.2<(g.2.1.length:Int)):=by
 unfold eA at h
 split at h
 ·rename_i h1;exact absurd h h1
 unfold xp at h
 split at h
 ·simp at h
 split at h
 ·rename_i p hp;exact absurd h (jH hp)
 unfold xo at h
 split at h
 ·simp at h
 split at h
 ·rename_i p hp;exact absurd h (jH hp)
 rename_i hpr
 intro p hp
 obtain⟨i,hi⟩:=List.mem_iff_getElem?.1 hp
 have h0:=xz hpr i p hi
 unfold lz at h0
 split at h0
 ·cases h0
 rename_i h1
 split at h0
 ·cases h0
 split at h0
 ·cases h0
 rename_i h3
 split at h0
 ·cases h0
 split at h0
 case isFalse=>cases h0
 unfold xm at h0
 split at h0
 case isFalse=>cases h0
 rename_i h4
 refine⟨by omega,λs hs=>?_⟩
 have hsy:=cG.1 h4 s hs
 unfold fU at hsy
 refine⟨λe=>?_,λe=>?_⟩
 ·rw[if_neg (by simp[e])]at hsy
  simp only[ag,decide_eq_true_eq]at hsy
  have hlt:s.2.toNat<g.1.length:=by
   apply ju
   intro hn
   simp[List.getElem?_eq_none (by omega:g.1.length<=s.2.toNat)]at hsy
  omega
 ·rw[if_pos e]at hsy
  simp at hsy
  omega
def YQ(nR:Nat)(look:Int):Prop:=∀ b,look.toNat.testBit b=true->b<nR\/b=63
def tb(nR:Nat)(l:List ItS):Prop:=∀ x∈l,YQ nR x.2.2
theorem PW{g:Grm}(h:(eA g).1=0){n:Nat}{s:Int}{b:Nat}(hf:Fst g.2.2.1 n s b):b<g.1.length:=by
 induction hf with
 |tok p pre y post b hp hr e h1 k1 k2 k3=>
  have:=((qM h p hp).2 y (by rw[e];simp)).1 k1
  omega
 |sort _ _ _ _ _ _ _ _ _ _ _ ih=>exact ih
theorem PX{g:Grm}(h:(eA g).1=0){p d:Int}{b:Nat}(hin:0<=p/\p<=(g.2.2.1.length:Int))(hf:fsG g p d b):b<g.1.length:=by
 obtain⟨pre,y,post,e,_,hy⟩:=hf
 have hm:y∈(di g p).1:=hC (show y∈qG g p d by rw[e];simp)
 rcases hy with⟨h1,h2,_⟩|⟨h1,h2,h3⟩
 ·unfold di at hm
  split at hm
  ·split at hm
   ·rename_i pr hpr
    have:=((qM h pr (List.mem_of_getElem? hpr)).2 y hm).1 h1
    omega
   ·cases hm
  ·split at hm
   ·rw[aK.1 hm]at h1;cases h1
   ·cases hm
 ·exact PW h (Lz.1 h3)
theorem xA{g:Grm}(h:(eA g).1=0){l:List ItS}(hl:tb g.1.length l):tb g.1.length (eN g l):=by
 intro x hx b hb
 obtain⟨p,d,_,_,_,e1,e2,_,BU⟩:=gU.1 hx
 have hc:=((BU b).1 hb).2
 have key:∀ {p d:Int} {o:Option Nat},Cl (stG g) (fsG g) (nlG g) (At l) p d o->∀ b,o=some b->b<g.1.length\/b=63:=by
  intro p d o hc
  induction hc with
  |base h1=>
   intro b e
   subst e
   obtain⟨z,hz,_,_,hb⟩:=h1
   exact hl z hz b hb
  |there _ _ _=>intro b e;cases e
  |first _ h2 h3 _=>
   intro b e
   cases e
   left
   refine PX h ?_ h3
   obtain⟨k,pr,_,_,hn⟩:=h2
   have h1:=vB hn
   exact vA λe=>by rw[e]at h1;simp at h1
  |look _ _ _ ih=>intro b e;cases e;exact ih _ rfl
 exact key hc b rfl
theorem PY{nR:Nat}{l:List ItS}(hb:∀ x∈l,je x)(hl:tb nR l):tb nR (fo l):=by
 intro x hx b BU
 obtain⟨z,hz,_,_,h⟩:=((ja hb).at' x.1 x.2.1 (some b)).1 ⟨x,hx,rfl,rfl,BU⟩
 exact hl z hz b h
theorem Tl{g:Grm}(h:(eA g).1=0){l:List ItS}(hb:∀ x∈l,je x)(hl:tb g.1.length l)(s:SyS):tb g.1.length (tgt g l s):=by
 refine xA h (PY (λy hy=>?_) λy hy=>?_)
 ·obtain⟨z,hz,_,rfl⟩:=mh.1 hy
  exact hb z hz
 ·obtain⟨z,hz,_,rfl⟩:=mh.1 hy
  exact hl z hz
theorem Mi{g:Grm}{P:List ItS->Prop}{l:List ItS}(ht:∀ s,P (tgt g l s)){items:List (List ItS)}(h:∀ m∈items,P m):∀ k,∀ m∈(cN g l items k).1,P m
 |0=>h
 |k+1=>by
  have ih:=Mi ht (l:=l) h k
  unfold cN
  split
  ·rename_i s _
   intro m hm
   change m∈jb (cN g l items k).1 (tgt g l s)at hm
   unfold jb at hm
   split at hm
   ·exact ih m hm
   ·rcases au.1 hm with hm|hm
    ·exact ih m hm
    ·rw[aK.1 hm];exact ht s
  ·exact ih
theorem QB{g:Grm}{P:List ItS->Prop}(ht:∀ l s,P l->P (tgt g l s)):∀ (m i:Nat) (s s':StB),(∀ l∈s.1,P l)->bfs g m i s=some s'->∀ l∈s'.1,P l
 |0,i,s,s',_,h=>by cases h
 |m+1,i,s,s',hs,h=>by
  rw[bfs]at h
  split at h
  ·cases h;exact hs
  ·split at h
   ·cases h
   ·refine QB ht m (i+1) (fk g i s) s' ?_ h
    unfold fk
    split
    ·rename_i l hl
     exact Mi (λy=>ht l y (hs l (List.mem_of_getElem? hl))) hs _
    ·exact hs
theorem Tm{g:Grm}{w:StB}(t:Trd g w):∀ l∈w.1,tb g.1.length l:=by
 have h:=QB (P:=λl=>(∀ x∈l,je x)/\tb g.1.length l) (g:=g) (λl s hl=>⟨λx hx=>by
  obtain⟨_,_,_,_,_,_,_,hU,_⟩:=gU.1 hx
  exact hU,Tl t.e0 hl.1 hl.2 s⟩) _ _ _ _ (λl hl=>by
  rw[aK.1 hl]
  refine⟨λx hx=>?_,xA t.e0 λx hx=>?_⟩
  ·obtain⟨_,_,_,_,_,_,_,hU,_⟩:=gU.1 hx
   exact hU
  ·rw[aK.1 hx]
   intro b hb
   have:=(qC 63 b).1 hb
   omega) t.bf
 exact λl hl=>(h l hl).2
end
noncomputable section
abbrev Ac:=Int×Int
abbrev Cla:=Int×(Int×(Int×(Int×(Int×Bool))))
def jt(g:GrS)(q:Int):Ac:=(if q=(g.2.2.1.length:Int)then 3 else 2,q)
def qN(st at' q:Int)(now was:Ac)(d:Int):Ac×List Cla:=
 if was.1=0 then(now,[])else if was.1=1 then
  (if d=1 then(now,[(st,(at',(q,(-1,(2,false)))))])else if d=2 then((0,0),[(st,(at',(q,(-1,(0,false)))))])else if d=0 then(was,[(st,(at',(q,(-1,(1,false)))))])else(was,[(st,(at',(q,(-1,(1,true)))))]))
 else(was,[(st,(at',(was.2,(q,(was.1,true)))))])
abbrev RwS:=List Ac×List Cla
def stepT(g:GrS)(dec:Int->Nat->Int)(st q:Int)(s:RwS)(at':Nat):RwS:=match s.1[at']? with
 |some was=>(s.1.set at' (qN st (at':Int) q (jt g q) was (dec q at')).1,s.2++(qN st (at':Int) q (jt g q) was (dec q at')).2)
 |none=>s
def kv(look:Int):List Nat:=(List.range 64).filter λt=>look.toNat.testBit t
def atT(nR t:Nat):Nat:=if t=63 then nR else t
theorem vL(st at' q:Int)(now was:Ac)(d:Int):(qN st at' q now was d).2.length<=1:=by
 unfold qN
 repeat' split
 all_goals simp
theorem Ie(g:GrS)(dec:Int->Nat->Int)(st q:Int)(s:RwS)(at':Nat):(stepT g dec st q s at').1.length=s.1.length/\(stepT g dec st q s at').2.length<=s.2.length+1:=by
 unfold stepT
 split
 ·rename_i was _
  have:=vL st (at':Int) q (jt g q) was (dec q at')
  exact⟨by simp,by show(s.2++_).length<=_;rw[ak];omega⟩
 ·exact⟨rfl,by omega⟩
end
noncomputable section
def lev(r:Int):List Lvl->Nat->Int×Int
 |[],_=>(0,0)
 |l::ls,i=>if r∈l.2 then(((i+1:Nat):Int),l.1)else lev r ls (i+1)
abbrev kE(p:Int×Int):Option ((Int×(Int×Unit))×Unit):=some ((p.1,(p.2,())),())
theorem zr(g:Grm)(r:Int)(hl:g.2.2.2.1.length<=maxLen)(hr:∀ l∈g.2.2.2.1,l.2.length<=maxLen):HD N0 (g,(r,()))=kE (lev r g.2.2.2.1 0):=by
 delta HD Ld Bd Wi
 refine a8 (λj=>((),((j:Int),()))) (λj=>kE (lev r (g.2.2.2.1.drop j) j)) g.2.2.2.1.length (λj hj k hk=>?_) N0 0 (az _) (by have:=gd hl;omega)
 rcases aj j g.2.2.2.1.length with hlt|hge
 ·have hk:=hk hlt
  have hc:((j:Nat):Int)<(g.2.2.2.1.length:Int):=by omega
  have hd:g.2.2.2.1.drop j=g.2.2.2.1[j]::g.2.2.2.1.drop (j+1):=cq hlt
  simp only[hc,decide_true,cond_true,aa,aB,if_true,List.getElem?_eq_getElem hlt,hd,lev]
  have hr':=hr _ (aN hlt)
  generalize g.2.2.2.1[j]=l at hr' |-
  refine(a8 (λm=>((),((m:Int),()))) (λm=>if r∈l.2.drop m then kE (((j+1:Nat):Int),l.1)else kE (lev r (g.2.2.2.1.drop (j+1)) (j+1))) l.2.length (λm hm k2 hk2=>?_) N0 0 (az _) (by have:=gd hr';omega)).trans ?_
  ·rcases aj m l.2.length with zt|Tn
   ·have hk2:=hk2 zt
    have hc2:((m:Nat):Int)<(l.2.length:Int):=by omega
    have hd2:l.2.drop m=l.2[m]::l.2.drop (m+1):=cq zt
    simp only[hc2,decide_true,cond_true,aa,aB,if_true,List.getElem?_eq_getElem zt,hd2,aI,aX hlt hl,aX zt hr',bx,decide_eq_true_eq,hk2]
    by_cases e:l.2[m]=r
    ·simp[e]
    ·simp[e,Ne.symm e]
   ·have hc2:¬((m:Nat):Int)<(l.2.length:Int):=by omega
    simp only[hc2,decide_false,cond_false,dX Tn,bU,if_false,aX hlt hl]
    exact hk
  ·rw[dm];split <;> rfl
 ·have hc:¬((j:Nat):Int)<(g.2.2.2.1.length:Int):=by omega
  simp only[hc,decide_false,cond_false,dX hge,lev]
def lD(ls:List Lvl)(acc:Int×Int)(s:Bool×Int):Int×Int:=if s.1=true then acc else if 0<(lev s.2 ls 0).1 then lev s.2 ls 0 else acc
def ofp(g:Grm)(n:Int):Int×Int:=
 if n<0\/(g.2.2.1.length:Int)<=n then(0,0)else match g.2.2.1[n.toNat]? with
  |none=>(0,0)
  |some p=>if 0<=p.2.2.2.2.1 then lev p.2.2.2.2.1 g.2.2.2.1 0 else p.2.2.1.foldl (lD g.2.2.2.1) (0,0)
theorem PZ(g:Grm)(n:Int)(hg:GOk g):Oz N0 (g,(n,()))=kE (ofp g n):=by
 delta Oz Ld Bd Wi
 simp only[aE,bx]
 unfold ofp
 by_cases h1:n<0
 ·simp[h1,kE]
 ·by_cases h2:(g.2.2.1.length:Int)<=n
  ·simp[h1,h2,kE]
  ·obtain⟨m,rfl⟩:∃ m:Nat,n=m:=⟨n.toNat,by omega⟩
   have hm:m<g.2.2.1.length:=by omega
   simp only[h1,h2,decide_false,ap,if_false,or_self,aa,aB,if_true,List.getElem?_eq_getElem hm]
   have hb:=hg.pb _ (aN hm)
   generalize g.2.2.1[m]=p at hb |-
   by_cases h3:0<=p.2.2.2.2.1
   ·simp only[h3,decide_true,if_true]
    rw[zr g _ hg.ls hg.lr]
    rfl
   ·simp only[h3,decide_false,ap,if_false]
    have h0:IntKind.wrap .i64 ((p.2.2.1.length:Int)-1)=(p.2.2.1.length:Int)-1:=by unfold maxLen at hb;exact bp (by omega) (by omega)
    rw[h0]
    refine(HI (λj:Nat=>((),((j:Int)-1,()))) (λj=>kE ((p.2.2.1.take j).foldl (lD g.2.2.2.1) (0,0))) p.2.2.1.length (λj hj k hk=>?_) N0 p.2.2.1.length (aw _) (by have:=gd hb;omega)).trans (by rw[dj])
    rcases j with _|i
    ·simp[kE]
    ·have hk:=hk i rfl
     have e0:((i+1:Nat):Int)-1=(i:Int):=by omega
     simp only[e0,aB,decide_true,if_true,aa]
     have hi:i<p.2.2.1.length:=by omega
     ·rw[nQ hi,eD]
      simp only[List.getElem?_eq_getElem hi,kN,List.foldl_nil]
      have h1:IntKind.wrap .i64 ((i:Int)-1)=(i:Int)-1:=by unfold maxLen at hb;exact bp (by omega) (by omega)
      rw[h1,hk,zr g _ hg.ls hg.lr]
      unfold lD
      by_cases hs:p.2.2.1[i].1=true
      ·simp[hs]
      ·simp only[hs,ap,if_false,aD]
       by_cases hl:0<(lev p.2.2.1[i].2 g.2.2.2.1 0).1
       ·simp[hl,kE]
       ·simp[hl]
def dec(a b:Int×Int):Int:=
 if a.1=0\/b.1=0 then 3 else if b.1<a.1 then 1 else if a.1<b.1 then 0 else if b.2=1 then 1 else if b.2=2 then 0 else 2
theorem P0(g:Grm)(n t:Int)(hg:GOk g):OA N0 (g,(n,(t,())))=some ((dec (ofp g n) (lev t g.2.2.2.1 0),()),()):=by
 delta OA Bd
 simp only[PZ g n hg,zr g t hg.ls hg.lr,aD,aE,bx,decide_eq_true_eq,dec]
 repeat' split
 all_goals first|rfl|simp_all
end
noncomputable section
def o7(g:Grm)(q:Int)(t:Nat):Int:=dec (ofp g q) (lev (t:Int) g.2.2.2.1 0)
theorem FL{g:Grm}(hg:GOk g)(st:Int)(t:Nat)(was now:Ac):OB N0 (g,(st,((t:Int),(was,(now,())))))=some (((qN st (t:Int) now.2 now was (o7 g now.2 t)).1,((qN st (t:Int) now.2 now was (o7 g now.2 t)).2,())),()):=by
 delta OB Bd;unfold qN
 simp only[aE]
 simp only[bx,decide_eq_true_eq]
 by_cases h0:was.1=0
 ·simp only[h0,if_true]
 ·by_cases h1:was.1=1
  ·rw[ae (P0 g now.2 (t:Int) hg)]
   simp only[h0,h1,if_true,if_false,show ¬(1:Int)=0 by omega]
   show _=_
   unfold o7
   by_cases d1:dec (ofp g now.2) (lev (t:Int) g.2.2.2.1 0)=1
   ·simp only[d1,if_true]
   ·by_cases d2:dec (ofp g now.2) (lev (t:Int) g.2.2.2.1 0)=2
    ·rw[d2];rfl
    ·by_cases d0:dec (ofp g now.2) (lev (t:Int) g.2.2.2.1 0)=0
     ·rw[d0];rfl
     ·simp only[d0,d1,d2,if_false]
  ·simp only[h0,h1,if_false]
theorem Mj{a:Int}(ha:U64 a){n:Nat}(hn:n<64):(dL .and .u64 a (pG (n:Int))=0)↔a.toNat.testBit n=false:=by
 have hb:=sj (n:Int)
 have hbn:pG (n:Int)=((2 ^ n:Nat):Int):=by unfold pG;rw[if_pos ⟨by omega,by omega⟩,aa]
 unfold dL
 simp only
 have e:(BitVec.ofInt (IntKind.bits .u64) a&&& BitVec.ofInt (IntKind.bits .u64) (pG (n:Int))).toNat=a.toNat&&& 2 ^ n:=by
  rw[rf]
  have k:∀ x:Int,U64 x->(BitVec.ofInt (IntKind.bits .u64) x).toNat=x.toNat:=λx hx=>by
   unfold U64 at hx
   rw[n5]
   show(x % ((2 ^ 64:Nat):Int)).toNat=x.toNat
   rw[Int.emod_eq_of_lt hx.1 (by
    have:((2 ^ 64:Nat):Int)=18446744073709551616:=by decide
    omega)]
  rw[k a ha,k _ hb,hbn,aa]
 have key:a.toNat&&& 2 ^ n=(a.toNat.testBit n).toNat*2 ^ n:=by
  apply fD
  intro i
  rw[Nat.testBit_and,kK]
  by_cases e:n=i
  ·subst e
   cases ht:a.toNat.testBit n <;> simp
  ·cases ht:a.toNat.testBit n <;> simp[e]
 rw[e,key]
 have hp:(2:Nat) ^ n<2 ^ 64:=nZ (by omega) hn
 have hp0:0<(2:Nat) ^ n:=Nat.pos_of_ne_zero (by simp)
 have e64:(2:Nat) ^ 64=18446744073709551616:=by decide
 cases ht:a.toNat.testBit n
 ·simp[wrap_u64 xq]
 ·rw[e64]at hp
  generalize (2:Nat) ^ n=z at *
  have:U64 ((true.toNat*z:Nat):Int):=by
   simp only[Bool.toNat_true,Nat.one_mul]
   exact⟨by omega,by omega⟩
  rw[wrap_u64 this]
  simp
  omega
theorem P1{a:Int}(ha:U64 a){n:Nat}(hn:n<64):Ox N0 (a,((n:Int),()))=some ((a.toNat.testBit n,()),()):=by
 unfold Ox
 simp only[yV (n:Int) (by omega) (by omega),aD]
 congr 3
 have:=Mj ha hn
 cases ht:a.toNat.testBit n
 ·rw[ht]at this
  simp[this.2 rfl]
 ·have hne:¬dL .and .u64 a (pG (n:Int))=0:=λe=>by
   rw[ht]at this
   cases this.1 e
  simp[hne]
def tc(look:Int):List Int:=(kv look).map λ(t:Nat)=>(t:Int)
theorem P2{a:Int}(ha:U64 a):Oy N0 (a,())=some ((tc a,()),()):=by
 delta Oy Ap Bd Wi
 simp only[aE]
 simp only[bx,decide_eq_true_eq]
 refine a8 (λj=>((),((((List.range j).filter λt=>a.toNat.testBit t).map λ(t:Nat)=>(t:Int)),((j:Int),())))) (λ_=>some ((tc a,()),())) 64 (λj hj K hK=>?_) N0 0 (az _) (by unfold N0;omega)
 have hfl:((List.range j).filter λt=>a.toNat.testBit t).length<=j:=bE (fB _ _) (by simp)
 rcases aj j 64 with h|h
 ·have c:(j:Int)<=63:=by omega
  have hK:=hK h
  have hj1:IntKind.wrap .i64 ((j:Int)+1)=((j+1:Nat):Int):=bJ (by omega:j<1000) (by omega)
  rw[dY,jx]at hK
  simp only[c,if_true,hj1]
  rw[ae (P1 ha h)]
  simp only
  cases ht:a.toNat.testBit j
  ·simp only[ap,if_false]
   simpa [ht]using hK
  ·simp only[if_true,aO,bn,bq]
   rw[if_pos (by omega),if_pos (by omega)]
   simpa [ht]using hK
 ·have c:¬(j:Int)<=63:=by omega
  have e:j=64:=by omega
  subst e
  simp only[c,if_false]
  rfl
end
noncomputable section
theorem zu{g:Grm}(h:(eA g).1=0){L:List ItS}{y:SyS}(hn:Nxs g L y)(hy:y.1=false):0<=y.2/\y.2<(g.1.length:Int):=by
 obtain⟨x,_,hx⟩:=hn
 unfold fQ at hx
 split at hx
 ·cases hx
 have hm:=List.mem_of_getElem? hx
 unfold di at hm
 split at hm
 ·split at hm
  ·rename_i pr hpr
   exact((qM h pr (List.mem_of_getElem? hpr)).2 y hm).1 hy
  ·cases hm
 ·split at hm
  ·rw[aK.1 hm]at hy;cases hy
  ·cases hm
def mvS(nR:Nat)(Mk:List Ac)(m:SyS×Int):List Ac:=if m.1.1=false/\m.1.2<(nR:Int)then Mk.set m.1.2.toNat (1,m.2)else Mk
def gV(nR:Nat)(ms:List (SyS×Int)):List Ac:=ms.foldl (mvS nR) (List.replicate (nR+1) (0,0))
theorem FM(nR:Nat)(Mk:List Ac)(m:SyS×Int):(mvS nR Mk m).length=Mk.length:=by unfold mvS;split <;> simp
theorem lE(nR:Nat)(ms:List (SyS×Int)):(gV nR ms).length=nR+1:=by
 have key:∀ (ms:List (SyS×Int)) (a:List Ac),(ms.foldl (mvS nR) a).length=a.length:=by
  intro ms
  induction ms with
  |nil=>intro a;rfl
  |cons m ms ih=>intro a;rw[kN,ih,FM]
 unfold gV
 rw[key];simp
def fV(g:Grm)(i:Nat)(q:Int)(s:RwS)(ts:List Nat):RwS:=ts.foldl (λs t=>stepT g (o7 g) (i:Int) q s (atT g.1.length t)) s
def xB(g:Grm)(i:Nat)(s:RwS)(x:ItS):RwS:=fV g i x.1 s (kv x.2.2)
theorem DU(g:Grm)(i:Nat)(q:Int)(s:RwS)(ts:List Nat){j:Nat}(h:j<ts.length):fV g i q s (ts.take (j+1))=stepT g (o7 g) (i:Int) q (fV g i q s (ts.take j)) (atT g.1.length ts[j]):=by
 unfold fV
 rw[cJ _ _ h,eD];rfl
theorem oW(g:Grm)(i:Nat)(q:Int):∀ (ts:List Nat) (s:RwS),(fV g i q s ts).1.length=s.1.length/\(fV g i q s ts).2.length<=s.2.length+ts.length
 |[],s=>⟨rfl,by simp[fV]⟩
 |t::ts,s=>by
  have h1:=Ie g (o7 g) (i:Int) q s (atT g.1.length t)
  have h2:=oW g i q ts (stepT g (o7 g) (i:Int) q s (atT g.1.length t))
  have e:fV g i q s (t::ts)=fV g i q (stepT g (o7 g) (i:Int) q s (atT g.1.length t)) ts:=rfl
  rw[e,aO]
  omega
theorem xC(look:Int):(kv look).length<=64:=bE (fB _ _) (by simp)
def dr(g:Grm)(i:Nat)(a:List Ac)(wl:List ItS):RwS:=wl.foldl (xB g i) (a,[])
theorem vM(g:Grm)(i:Nat)(a:List Ac)(wl:List ItS){j:Nat}(h:j<wl.length):dr g i a (wl.take (j+1))=xB g i (dr g i a (wl.take j)) wl[j]:=by
 unfold dr
 rw[cJ _ _ h,eD];rfl
theorem oX(g:Grm)(i:Nat)(a:List Ac)(wl:List ItS):∀ j,j<=wl.length->(dr g i a (wl.take j)).1.length=a.length/\(dr g i a (wl.take j)).2.length<=j*64
 |0,_=>⟨rfl,by simp[dr]⟩
 |j+1,hj=>by
  have ih:=oX g i a wl j (by omega)
  rw[vM g i a wl (by omega)]
  have h1:=oW g i wl[j].1 (kv wl[j].2.2) (dr g i a (wl.take j))
  have h2:=xC wl[j].2.2
  unfold xB
  omega
def fi(g:Grm)(w:StB)(i:Nat):RwS:=match w.1[i]?,(mvR w.2.1 w.2.2)[i]? with
 |some L,some ms=>dr g i (gV g.1.length ms) (L.filter (fq g))
 |_,_=>(List.replicate (g.1.length+1) (0,0),[])
set_option maxHeartbeats 4000000 in
theorem To{g:Grm}{w:StB}(t:Trd g w)(gok:GOk g)(hR:g.1.length<=20){i:Nat}(hi:i<w.1.length):
 p51 N0 (g,((w.1,mvR w.2.1 w.2.2),((i:Int),())))=some (((fi g w i).1,((fi g w i).2,())),()):=by
 have hk:=t.okB
 have hmx:=hk.mx
 obtain⟨L,sy,to,g1,g2,g3,g4,g5,g6,g7⟩:=qL hk hi
 have eR:fi g w i=dr g i (gV g.1.length (sy.zip to)) (L.filter (fq g)):=by unfold fi;rw[g1,g4]
 have hsl:=j6 g L
 rw[<-g6]at hsl
 have hbd:=(hk.it L (List.mem_of_getElem? g1)).1.bd
 have hw1:IntKind.wrap .i64 ((g.1.length:Int)+1)=((g.1.length+1:Nat):Int):=bJ (cH _) (by omega)
 have hwl:(L.filter (fq g)).length<=L.length:=fB _ _
 delta p51 Ld Ap Bd Wi
 simp only[aE]
 simp only[bx,decide_eq_true_eq,hw1,aa]
 rw[if_pos ⟨by omega,by omega⟩,if_pos (by omega),if_neg (by omega)]
 rw[ae (DR _)]
 simp only[decide_eq_true_eq]
 rw[if_neg (by omega)]
 simp only[aB,if_true,aa,g4]
 have hzl:(sy.zip to).length=sy.length:=by rw[od];omega
 refine a8 (λj=>((gV g.1.length ((sy.zip to).take j),()),((j:Int),()))) (λ_=>some (((fi g w i).1,((fi g w i).2,())),())) (sy.zip to).length (λj hj K hK=>?_) N0 0 (az _) (by unfold N0;omega)
 rcases aj j (sy.zip to).length with hjl|hjl
 ·have c:(j:Int)<((sy.zip to).length:Int):=by omega
  have hK:=hK hjl
  have hj1:IntKind.wrap .i64 ((j:Int)+1)=((j+1:Nat):Int):=bJ hjl (by omega)
  have hst:gV g.1.length ((sy.zip to).take (j+1))=mvS g.1.length (gV g.1.length ((sy.zip to).take j)) (sy.zip to)[j]:=by
   unfold gV
   rw[cJ _ _ hjl,eD];rfl
  rw[hst]at hK
  have hal:=lE g.1.length ((sy.zip to).take j)
  have hz:=FK g5 (by omega:j<sy.length)
  rw[List.getElem?_eq_getElem hjl]at hz
  have hz:=dz hz
  have hjs:j<sy.length:=by omega
  have hms:sy[j]∈bM g L:=by rw[<-g6];exact aN hjs
  have P3:sy[j].1=false->0<=sy[j].2/\sy[j].2<(g.1.length:Int):=zu t.e0 (((ml g L).mem _).1 hms)
  rw[hz]at hK
  simp only[c,if_true,aB,aa,List.getElem?_eq_getElem hjl,hj1,hz]
  generalize gV g.1.length ((sy.zip to).take j)=A at *
  generalize sy[j]=y at *
  unfold mvS at hK
  cases hy:y.1
  ·have:=P3 hy
   have hlt:y.2.toNat<A.length:=by omega
   have h0:0<=y.2:=this.1
   simp only[aH,if_true,this.2,decide_true,h0,List.getElem?_eq_getElem hlt]
   rw[if_pos ⟨hy,this.2⟩]at hK
   exact hK
  ·rw[if_neg (by rw[hy];simp)]at hK
   simp only[ay,ap,if_false]
   exact hK
 ·have c:¬(j:Int)<((sy.zip to).length:Int):=by omega
  rw[bK hjl]
  simp only[c,if_false]
  rw[ae (Tk t g1)]
  simp only[bq]
  have hal:=lE g.1.length (sy.zip to)
  rw[eR]
  generalize gV g.1.length (sy.zip to)=A0 at *
  generalize hW:L.filter (fq g)=W at *
  have hbW:∀ x∈W,je x:=λx hx=>hbd x (fG.1 (hW ▸ hx)).1
  clear hK
  refine a8 (λk=>(((dr g i A0 (W.take k)).1,()),((dr g i A0 (W.take k)).2,((k:Int),())))) (λ_=>some (((dr g i A0 W).1,((dr g i A0 W).2,())),())) W.length (λk hk' M hM=>?_) N0 0 (az _) (by unfold N0;omega)
  have hrl:=oX g i A0 W k hk'
  rcases aj k W.length with hkl|hkl
  ·have ck:(k:Int)<(W.length:Int):=by omega
   have hM:=hM hkl
   have hk1:IntKind.wrap .i64 ((k:Int)+1)=((k+1:Nat):Int):=bJ hkl (by omega)
   have hx:=hbW _ (aN hkl)
   rw[vM g i A0 W hkl]at hM
   simp only[ck,if_true,aB,aa,List.getElem?_map,List.getElem?_eq_getElem hkl,dy,hk1]
   generalize dr g i A0 (W.take k)=s at *
   generalize W[k]=x at *
   have hbl:=xC x.2.2
   have hlb:(tc x.2.2).length=(kv x.2.2).length:=by unfold tc;rw[bq]
   have hU:U64 x.2.2:=hx
   rw[show xB g i s x=fV g i x.1 s (kv x.2.2)from rfl]at hM
   have e3:x.1=(g.2.2.1.length:Int)->((3:Int),x.1)=jt g x.1:=λe=>by unfold jt;rw[if_pos e]
   have e2:¬x.1=(g.2.2.1.length:Int)->((2:Int),x.1)=jt g x.1:=λe=>by unfold jt;rw[if_neg e]
   by_cases hq:x.1=(g.2.2.1.length:Int)
   rw[if_pos hq,e3 hq]
   rotate_left
   rw[if_neg hq,e2 hq]
   all_goals
    rw[ae (P2 hU)]
    simp only
    refine a8 (λj=>(((fV g i x.1 s ((kv x.2.2).take j)).1,()),((fV g i x.1 s ((kv x.2.2).take j)).2,((j:Int),())))) (λ_=>some (((dr g i A0 W).1,((dr g i A0 W).2,())),())) (kv x.2.2).length (λj hj Q hQ=>?_) N0 0 (az _) (by unfold N0;omega)
    rcases aj j (kv x.2.2).length with hjl|hjl
    ·have cj:(j:Int)<((tc x.2.2).length:Int):=by omega
     have hQ:=hQ hjl
     have hj1:IntKind.wrap .i64 ((j:Int)+1)=((j+1:Nat):Int):=bJ hjl (by omega)
     have hfl:=oW g i x.1 ((kv x.2.2).take j) s
     rw[aL]at hfl
     have hg:(tc x.2.2)[j]?=some (((kv x.2.2)[j]:Nat):Int):=by unfold tc;rw[List.getElem?_map,List.getElem?_eq_getElem hjl];rfl
     rw[DU g i x.1 s _ hjl]at hQ
     simp only[cj,if_true,aB,aa,hg,hj1]
     generalize fV g i x.1 s ((kv x.2.2).take j)=f at *
     generalize (kv x.2.2)[j]=b at *
     have Zi:f.1.length=g.1.length+1:=by omega
     by_cases h63:b=63
     ·subst h63
      have ea:atT g.1.length 63=g.1.length:=if_pos rfl
      rw[ea]at hQ
      have hlt:g.1.length<f.1.length:=by omega
      have hpl:=vL (i:Int) (g.1.length:Int) x.1 (jt g x.1) f.1[g.1.length] (o7 g x.1 g.1.length)
      unfold stepT at hQ
      simp only[List.getElem?_eq_getElem hlt]at hQ
      rw[if_pos (by rfl),if_neg (by omega)]
      simp only[List.getElem?_eq_getElem hlt]
      rw[ae (FL gok (i:Int) g.1.length f.1[g.1.length] (jt g x.1))]
      simp only[show(jt g x.1).2=x.1 from rfl]
      rw[if_pos (by omega),if_pos (by omega)]
      exact hQ
     ·have ea:atT g.1.length b=b:=if_neg h63
      rw[ea]at hQ
      rw[if_neg (by omega)]
      rcases aj b f.1.length with hlt|hge
      ·have hpl:=vL (i:Int) (b:Int) x.1 (jt g x.1) f.1[b] (o7 g x.1 b)
       unfold stepT at hQ
       simp only[List.getElem?_eq_getElem hlt]at hQ
       rw[if_neg (by omega)]
       simp only[aB,if_true,aa,List.getElem?_eq_getElem hlt]
       rw[ae (FL gok (i:Int) b f.1[b] (jt g x.1))]
       simp only[show(jt g x.1).2=x.1 from rfl]
       rw[if_pos (by omega),if_pos (by omega)]
       exact hQ
      ·unfold stepT at hQ
       simp only[List.getElem?_eq_none hge]at hQ
       rw[if_pos (by omega)]
       exact hQ
    ·have cj:¬(j:Int)<((tc x.2.2).length:Int):=by omega
     rw[bK hjl]
     simp only[cj,if_false]
     exact hM
  ·have ck:¬(k:Int)<(W.length:Int):=by omega
   rw[bK hkl]
   simp only[ck,if_false]
end
noncomputable section

end
noncomputable section
theorem P4(g:GrS)(l:List ItS):(bM g l).Nodup:=(gn (o6 g l)).nodup_iff.2 (xt g l).1
theorem xD{nR t:Nat}(ht:t<=nR):∀ (sy:List SyS) (to:List Int) (a:List Ac),to.length=sy.length->sy.Nodup->(∀ y∈sy,y.1=false->0<=y.2)->t<a.length->
 ((sy.zip to).foldl (mvS nR) a)[t]?=if(false,(t:Int))∈sy/\t<nR then some (1,goN sy to (false,(t:Int)))else a[t]?
 |[],to,a,_,_,_,_=>by simp
 |y::sy,[],a,h,_,_,_=>by simp at h
 |y::sy,z::to,a,hl,hnd,hp,ha=>by
  rw[List.zip_cons_cons,kN]
  have V0:=oh.1 hnd
  have ih:=xD ht sy to (mvS nR a (y,z)) (by simpa using hl) V0.2 (λy' h=>hp y' (bB _ h)) (by rw[FM];exact ha)
  rw[ih]
  by_cases e:y=(false,(t:Int))
  ·subst e
   rw[if_neg (λh=>V0.1 h.1)]
   by_cases h1:t<nR
   ·rw[if_pos ⟨bu,h1⟩]
    have h2:mvS nR a ((false,(t:Int)),z)=a.set t (1,z):=by
     unfold mvS
     simp only[aa]
     rw[if_pos ⟨trivial,by omega⟩]
    have h3:goN ((false,(t:Int))::sy) (z::to) (false,(t:Int))=z:=by
     unfold goN mK
     rw[if_pos rfl];rfl
    rw[h2,h3,List.getElem?_set_self ha]
   ·rw[if_neg (λh=>h1 h.2)]
    have h2:mvS nR a ((false,(t:Int)),z)=a:=by
     unfold mvS
     rw[if_neg (λh=>h1 (by have:=h.2;simp only at this;omega))]
    rw[h2]
  ·have hm:(false,(t:Int))∈y::sy↔(false,(t:Int))∈sy:=by
    rw[aI]
    exact⟨λh=>h.resolve_left λe'=>e e'.symm,.inr⟩
   have h3:goN (y::sy) (z::to) (false,(t:Int))=goN sy to (false,(t:Int)):=by
    unfold goN
    rw[mK,if_neg e,List.getElem?_cons_succ]
   have h2:(mvS nR a (y,z))[t]?=a[t]?:=by
    unfold mvS
    split
    ·rename_i hy
     have h0:=hp y bu hy.1
     rw[List.getElem?_set,if_neg λh=>e (Prod.ext hy.1 (by show y.2=(t:Int);simp only at h;omega))]
    ·rfl
   rw[h2,h3]
   by_cases h4:(false,(t:Int))∈sy/\t<nR
   ·rw[if_pos h4,if_pos ⟨hm.2 h4.1,h4.2⟩]
   ·rw[if_neg h4,if_neg λh=>h4 ⟨hm.1 h.1,h.2⟩]
theorem Ml{g:Grm}{w:StB}(t:Trd g w){i:Nat}{L:List ItS}{sy:List SyS}{to:List Int}(hL:w.1[i]?=some L)(h2:w.2.1[i]?=some sy)(h3:w.2.2[i]?=some to){k:Nat}(hk:k<=g.1.length):
 (gV g.1.length (sy.zip to))[k]?=some (if 0<=goW w (i:Int) (false,(k:Int))then(1,goW w (i:Int) (false,(k:Int)))else(0,0)):=by
 have hi:=(List.getElem?_eq_some_iff.1 hL).1
 obtain⟨L',r1,r2,to',r3,r4,r5⟩:=t.okB.row i hi
 rw[hL]at r1;cases r1
 rw[h2]at r2;cases r2
 rw[h3]at r3;cases r3
 have P3:∀ y∈bM g L,y.1=false->0<=y.2/\y.2<(g.1.length:Int):=λy hy=>zu t.e0 (((ml g L).mem y).1 hy)
 have hgo:goW w (i:Int) (false,(k:Int))=goN (bM g L) to (false,(k:Int)):=by
  unfold goW
  rw[if_neg (by omega),aa,h2,h3]
 unfold gV
 rw[xD hk (bM g L) to _ r4 (P4 g L) (λy hy e=>(P3 y hy e).1) (by simp;omega),hgo]
 by_cases hm:(false,(k:Int))∈bM g L
 ·have h1:=P3 _ hm rfl
  have hp:=lC hm
  obtain⟨t',t1,_⟩:=r5 _ _ hp
  have hz:goN (bM g L) to (false,(k:Int))=(t':Int):=by unfold goN;rw[t1]
  rw[if_pos ⟨hm,by have:=h1.2;simp only at this;omega⟩,hz,if_pos (by omega)]
 ·have hz:goN (bM g L) to (false,(k:Int))=-1:=by
   unfold goN
   rw[mn hm,List.getElem?_eq_none (by omega)]
  rw[if_neg λh=>hm h.1,hz,if_neg (by omega),List.getElem?_replicate,if_pos (by omega)]
end
end Go.Proofs.YtphipehmbefejaaGreat.Rf.Rk
namespace Go.Proofs.YtphipehmbefejaaGreat.Rf
open Go
noncomputable section
def exC:GrI:=([([88],((0:Int),[120]))],([[69]],([((0:Int),([84,119,111],([(true,0),(true,0)],(false,(-1,[0]))))),((0:Int),([79,110,101],([(false,0)],(false,(-1,[])))))],([],(0:Int)))))
theorem V1:p37 N0 (exC,())=some ((0,(0,(0,()))),()):=by kernel_rfl
def okB(g:GrI):Bool:=g.1.all (λr=>(r.1.all λc=>decide (0<=c/\c<=255))&&(r.2.2.all λc=>decide (0<=c/\c<=255))&&decide (r.1.length<=100)&&decide (r.2.2.length<=12))&&g.2.1.all (λs=>(s.all λc=>decide (0<=c/\c<=255))&&decide (s.length<=100))
 &&g.2.2.1.all (λp=>(p.2.1.all λc=>decide (0<=c/\c<=255))&&decide (p.2.1.length<=100)&&decide (p.2.2.1.length<=100)&&decide (p.2.2.2.2.2.length<=100))&&decide (g.1.length<=100)&&decide (g.2.1.length<=100)&&decide (g.2.2.1.length<=100)&&g.2.2.2.1.isEmpty
theorem Tp{g:GrI}(h:okB g=true):tv g/\∀ r∈g.1,r.2.2.length<=12:=by
 unfold okB at h
 simp only[ag,decide_eq_true_eq,cG]at h
 obtain⟨⟨⟨⟨⟨⟨h1,h2⟩,h3⟩,h4⟩,h5⟩,h6⟩,h7⟩:=h
 have h7:g.2.2.2.1=[]:=by simpa using h7
 have hm:∀ n:Nat,n<=100->n<=maxLen:=λn hn=>by unfold maxLen;omega
 refine⟨⟨by omega,λr hr=>?_,by omega,λs hs=>?_,by omega,λp hp=>?_,λp hp=>?_,λp hp=>?_,by rw[h7];simp,λl hl=>?_⟩,λr hr=>(h1 r hr).2⟩
 ·obtain⟨⟨⟨a1,a2⟩,a3⟩,a4⟩:=h1 r hr
  exact⟨a1,hm _ a3,a2,hm _ (by omega)⟩
 ·exact⟨(h2 s hs).1,hm _ (h2 s hs).2⟩
 ·exact⟨(h3 p hp).1.1.1,hm _ (h3 p hp).1.1.2⟩
 ·have:=(h3 p hp).1.2;omega
 ·have:=(h3 p hp).2;omega
 ·rw[h7]at hl;cases hl
theorem YR{g:GrI}(h:okB g=true)(h2:p37 N0 (g,())=some ((0,(0,(0,()))),())):∃ a b,p43 N0 (g,())=some (((0,(a,b)),()),()):=by
 obtain⟨ok,h12⟩:=Tp h
 have h31:=Lj ok h12
 have h13:=Lk ok
 rw[h2]at h13
 have h3:=(Prod.mk.inj (Prod.mk.inj (dz h13)).1).1
 refine⟨(eA g).2.1,(eA g).2.2,h31.trans ?_⟩
 rw[show eA g=((eA g).1,((eA g).2.1,(eA g).2.2))from rfl,<-h3]
end
end Go.Proofs.YtphipehmbefejaaGreat.Rf
namespace Go.Proofs.YtphipehmbefejaaGreat.Rf.Rk
open Go Go.Proofs.YtphipehmbefejaaGreat.Rf
noncomputable section
def pJ(g:Grm)(w:StB)(n:Nat):List (List Ac):=(List.range n).map λi=>(fi g w i).1
def gW(g:Grm)(w:StB)(n:Nat):List Cla:=(List.range n).flatMap λi=>(fi g w i).2
theorem nK(g:Grm)(w:StB)(n:Nat):(pJ g w n).length=n:=by unfold pJ;simp
theorem Ig(g:Grm)(w:StB)(n:Nat):pJ g w (n+1)=pJ g w n++[(fi g w n).1]:=by unfold pJ;rw[dY,cO];rfl
theorem lF(g:Grm)(w:StB)(n:Nat):gW g w (n+1)=gW g w n++(fi g w n).2:=by unfold gW;rw[dY,gw];simp
theorem B6(g:Grm)(w:StB){n i:Nat}(h:i<n):(pJ g w n)[i]?=some (fi g w i).1:=by unfold pJ;simp[h]
theorem lG{g:Grm}{w:StB}(t:Trd g w){i:Nat}(hi:i<w.1.length):(fi g w i).1.length=g.1.length+1/\(fi g w i).2.length<=20000:=by
 obtain⟨L,sy,to,g1,g2,g3,g4,g5,g6,g7⟩:=qL t.okB hi
 have hwl:(L.filter (fq g)).length<=L.length:=fB _ _
 have:=oX g i (gV g.1.length (sy.zip to)) (L.filter (fq g)) _ (aw _)
 rw[dj,lE]at this
 have eR:fi g w i=dr g i (gV g.1.length (sy.zip to)) (L.filter (fq g)):=by unfold fi;rw[g1,g4]
 rw[eR]
 omega
theorem nL{g:Grm}{w:StB}(t:Trd g w):∀ n,n<=w.1.length->(gW g w n).length<=n*20000
 |0,_=>az _
 |n+1,h=>by
  have ih:=nL t n (by omega)
  have:=(lG t (i:=n) (by omega)).2
  rw[lF,ak]
  omega
theorem Tq{g:Grm}{w:StB}(t:Trd g w)(gok:GOk g)(hR:g.1.length<=20):p13 N0 (g,((w.1,mvR w.2.1 w.2.2),()))=some ((pJ g w w.1.length,(gW g w w.1.length,())),()):=by
 have hmx:=t.okB.mx
 delta p13 Ap Bd Wi
 simp only[aE]
 simp only[bx,decide_eq_true_eq]
 rw[ae (DR _)]
 simp only
 refine a8 (λj=>((),(pJ g w j,(gW g w j,((j:Int),()))))) (λ_=>some ((pJ g w w.1.length,(gW g w w.1.length,())),())) w.1.length (λj hj K hK=>?_) N0 0 (az _) (by unfold N0;omega)
 rcases aj j w.1.length with hjl|hjl
 ·have c:(j:Int)<(w.1.length:Int):=by omega
  have hK:=hK hjl
  have hj1:IntKind.wrap .i64 ((j:Int)+1)=((j+1:Nat):Int):=bJ hjl (by omega)
  have h1:=nK g w j
  have h2:=nL t j hj
  have h3:=lG t hjl
  rw[Ig,lF]at hK
  simp only[c,if_true,hj1]
  rw[ae (To t gok hR hjl)]
  simp only[aO,bn]
  rw[if_pos (by omega),if_pos (by omega),if_pos (by omega),if_pos (by omega)]
  exact hK
 ·have c:¬(j:Int)<(w.1.length:Int):=by omega
  have e:j=w.1.length:=by omega
  subst e
  simp only[c,if_false]
end
noncomputable section
abbrev ClO:=Int×(Int×(Int×(Int×(Int×Bool))))
def mq(c:ClO):Bool:=c.2.2.2.2.2
theorem FN{α:Type}:∀ (l:List α) (j:Nat) (h:j<l.length),l.take (j+1)=l.take j++[l[j]]
 |[],j,h=>by simp at h
 |a::l,0,h=>by simp
 |a::l,j+1,h=>by
  have:=FN l j (by simpa using h)
  simp only[List.take_succ_cons,this,gx,List.getElem_cons_succ]
theorem P5{α:Type}(p:α->Bool)(l:List α){j:Nat}(h:j<l.length):(l.take (j+1)).filter p=(l.take j).filter p++(if p l[j]=true then [l[j]]else []):=by
 rw[FN _ _ h,jx]
 congr 1
 cases hp:p l[j]
 ·simp[hp]
 ·simp[hp]
theorem nM{j n:Nat}(h:j<n)(hn:n<=1000000000000):IntKind.wrap .i64 ((j:Int)+1)=((j+1:Nat):Int):=by
 rw[bp (by omega) (by omega)];simp
theorem Ts{l:List ClO}(hl:l.length<=1000000000000):p10 N0 (l,())=some ((l.filter mq,()),()):=by
 delta p10 Ld Ap Bd Wi
 simp only[aE]
 simp only[bx,decide_eq_true_eq]
 refine a8 (λj=>((),((l.take j).filter mq,((j:Int),())))) (λ_=>some ((l.filter mq,()),())) l.length (λj hj K hK=>?_) N0 0 (az _) (by unfold N0;omega)
 rcases aj j l.length with h|h
 ·have c:(j:Int)<(l.length:Int):=by omega
  have hK:=hK h
  have hj1:IntKind.wrap .i64 ((j:Int)+1)=((j+1:Nat):Int):=nM h hl
  have hfl:((l.take j).filter mq).length<=j:=bE (fB _ _) (by rw[aL];omega)
  rw[P5 _ _ h]at hK
  simp only[c,if_true,aB,aa,List.getElem?_eq_getElem h,hj1]
  cases ho:l[j].2.2.2.2.2
  ·have:mq l[j]=false:=ho
   rw[this]at hK
   simpa using hK
  ·have:mq l[j]=true:=ho
   rw[this]at hK
   simp only[if_true,aO,bn]
   rw[if_pos (by omega),if_pos (by omega)]
   exact hK
 ·have c:¬(j:Int)<(l.length:Int):=by omega
  simp only[c,if_false]
  rw[bK h]
end
noncomputable section
set_option maxRecDepth 100000 in
theorem Mm:p17 N0 ()=some ((true,()),()):=by
 obtain⟨a,b,h⟩:=YR (g:=exC) (by decide) V1
 delta p17 Bd
 show ah (p18 N0 (exC,())) _=_
 rw[show p18 N0 (exC,())=_ from by
  delta p18 Ld Ap Bd Wi
  simp only
  rw[show p12 N0 (exC,())=_ from by
   delta p12 Ld Ap Bd Wi
   simp only
   rw[ae h]]]
 kernel_rfl
abbrev AcT:=Int×Int
abbrev tw:=List (List AcT)×(List (List Int)×(List Int×List Int))
def okA(n ns:Nat)(a:AcT):Bool:=decide (0<=a.1)&&(decide (a.1<=3)&&((!decide (a.1=1)||(decide (0<=a.2)&&decide (a.2<(n:Int))))&&(!decide (a.1=2)||(decide (0<=a.2)&&decide (a.2<(ns:Int))))))
def okG(n:Nat)(x:Int):Bool:=decide (-1<=x)&&decide (x<(n:Int))
def DV(t:tw)(tok so:Int)(j:Nat):Bool:=match t.1[j]?,t.2.1[j]? with
 |some a,some g=>decide ((a.length:Int)-1=tok)&&(decide ((g.length:Int)=so)&&(a.all (okA t.1.length t.2.2.1.length)&&g.all (okG t.1.length)))
 |_,_=>false
def slC(t:tw)(so:Int)(j:Nat):Bool:=match t.2.2.1[j]?,t.2.2.2[j]? with
 |some s,some l=>decide (0<=s)&&(decide (s<so)&&(decide (0<=l)&&decide (l<=12)))
 |_,_=>false
def vN(t:tw):Bool:=!decide (t.1.length=0)&&(decide (t.2.1.length=t.1.length)&&decide (t.2.2.2.length=t.2.2.1.length))
def B7(t:tw)(tok so:Int):Bool:=vN t&&((List.range t.1.length).all (DV t tok so)&&(List.range t.2.2.1.length).all (slC t so))
structure Sml(t:tw):Prop where
 a:t.1.length<=100000
 g:t.2.1.length<=100000
 s:t.2.2.1.length<=100000
 l:t.2.2.2.length<=100000
 ra:∀ r∈t.1,r.length<=100000
 rg:∀ r∈t.2.1,r.length<=100000
theorem B8{A R:Type}{body:A->(A->Option R)->Option R}(len:Nat)(ok:Nat->Bool)(bad after:Option R)(f:Nat->A)
 (step:∀ j,j<len->∀ k,body (f j) k=if ok j=true then k (f (j+1))else bad) (fin:∀ k,body (f len) k=after) (n:Nat) (hn:len<n):aC body n (f 0)=if(List.range len).all ok=true then after else bad:=by
 have:=eo (body:=body) (List.range len) ok bad after f (λj hj k=>by
  rw[ia]at hj
  rw[step j hj k,List.getElem_range]) (λk=>by rw[ia];exact fin k) n (by rw[ia];exact hn)
 exact this
theorem Tt{t:tw}{row:List AcT}(hr:row.length<=100000):p56 N0 (t,(row,()))=some ((row.all (okA t.1.length t.2.2.1.length),()),()):=by
 delta p56 Ld Bd Wi
 simp only[aE]
 simp only[bx,decide_eq_true_eq]
 refine(eo (after:=some ((true,()),())) row (okA t.1.length t.2.2.1.length) (some ((false,()),())) (λj=>((),((j:Int),()))) (λj hj k=>?_) (λk=>?_) N0 (by unfold N0;omega)).trans ?_
 ·have c:(j:Int)<(row.length:Int):=by omega
  simp only[c,if_true,aB,aa,List.getElem?_eq_getElem hj,nM hj (by omega)]
  generalize row[j]=a
  unfold okA
  by_cases h1:a.1=1
  ·by_cases h2:a.2<0
   ·have:¬0<=a.2:=by omega
    simp[h1,h2,this]
   ·by_cases h3:(t.1.length:Int)<=a.2
    ·have h4:¬a.2<(t.1.length:Int):=by omega
     simp[h1,h2,h3,h4]
    ·have h4:a.2<(t.1.length:Int):=by omega
     have h5:0<=a.2:=by omega
     simp[h1,h2,h3,h4,h5]
  ·by_cases h1':a.1=2
   ·by_cases h2:a.2<0
    ·have:¬0<=a.2:=by omega
     simp[h1',h2,this]
    ·by_cases h3:(t.2.2.1.length:Int)<=a.2
     ·have h4:¬a.2<(t.2.2.1.length:Int):=by omega
      simp[h1',h2,h3,h4]
     ·have h4:a.2<(t.2.2.1.length:Int):=by omega
      have h5:0<=a.2:=by omega
      simp[h1',h2,h3,h4,h5]
   ·by_cases h0:a.1=0
    ·simp[h0]
    ·by_cases h3:a.1=3
     ·simp[h3]
     ·by_cases h4:0<=a.1
      ·have h5:¬a.1<=3:=by omega
       simp[h1,h1',h0,h3,h5]
      ·simp[h1,h1',h0,h3,h4]
 ·simp only[gy,if_false]
 ·cases row.all (okA t.1.length t.2.2.1.length) <;> rfl
theorem Mn{len:Nat}(hl:len<=100000){tok:Int}(h1:-9223372036854775808<=tok)(h2:tok<=9223372036854775807):((len:Int)=IntKind.wrap .i64 (tok+1))↔(len:Int)-1=tok:=by
 by_cases h:tok<9223372036854775807
 ·rw[bp (by omega) (by omega)];omega
 ·have e:tok=9223372036854775807:=by omega
  subst e
  have:IntKind.wrap .i64 (9223372036854775807+1)=-9223372036854775808:=by decide
  rw[this]
  omega
set_option maxHeartbeats 2000000 in
theorem Tu{t:tw}(hs:Sml t){tok so:Int}(h1:-9223372036854775808<=tok)(h2:tok<=9223372036854775807):p22 N0 (t,(tok,(so,())))=some (((if B7 t tok so=true then 0 else 23),()),()):=by
 delta p22 Ld Bd Wi
 simp only[aE]
 simp only[bx,decide_eq_true_eq]
 have a0:=hs.a
 have g0:=hs.g
 have s0:=hs.s
 have l0:=hs.l
 by_cases q1:((t.1.length:Nat):Int)=0
 ·have:t.1.length=0:=by omega
  simp[B7,vN,this]
 by_cases q2:((t.2.1.length:Nat):Int)=(t.1.length:Int)
 case neg=>
  have:¬t.2.1.length=t.1.length:=by omega
  simp[B7,vN,this,q1,q2]
 by_cases q3:((t.2.2.2.length:Nat):Int)=(t.2.2.1.length:Int)
 case neg=>
  have:¬t.2.2.2.length=t.2.2.1.length:=by omega
  simp[B7,vN,this,q1,q2,q3]
 have e2:t.2.1.length=t.1.length:=by omega
 have e3:t.2.2.2.length=t.2.2.1.length:=by omega
 have V2:vN t=true:=by
  unfold vN
  have:¬t.1.length=0:=by omega
  simp[this,e2,e3]
 simp only[q1,if_false,q2,decide_true,ay,ap,q3]
 have yw:(if(List.range t.1.length).all (DV t tok so)=true then(if(List.range t.2.2.1.length).all (slC t so)=true then some (((0:Int),()),())else some ((23,()),()))else some ((23,()),()))=some (((if B7 t tok so=true then 0 else 23),()),()):=by
  unfold B7
  rw[V2]
  cases(List.range t.1.length).all (DV t tok so) <;> cases(List.range t.2.2.1.length).all (slC t so) <;> rfl
 rw[<-yw]
 refine B8 t.1.length (DV t tok so) _ _ (λj=>((),((j:Int),()))) (λj hj k=>?_) (λk=>?_) N0 (by unfold N0;omega)
 ·have hjg:j<t.2.1.length:=by omega
  have c:(j:Int)<(t.1.length:Int):=by omega
  have ra:=hs.ra _ (aN hj)
  have rg:=hs.rg _ (aN hjg)
  have eR:DV t tok so j=(decide ((t.1[j].length:Int)-1=tok)&&(decide ((t.2.1[j].length:Int)=so)&&(t.1[j].all (okA t.1.length t.2.2.1.length)&&t.2.1[j].all (okG t.1.length)))):=by
   unfold DV
   rw[List.getElem?_eq_getElem hj,List.getElem?_eq_getElem hjg]
  rw[eR]
  simp only[c,if_true,aB,aa,List.getElem?_eq_getElem hj,List.getElem?_eq_getElem hjg,nM hj (by omega)]
  generalize t.1[j]=a at *
  generalize t.2.1[j]=g at *
  have hwt:=Mn ra h1 h2
  by_cases c1:(a.length:Int)-1=tok
  ·have c1':=hwt.2 c1
   by_cases c2:(g.length:Int)=so
   ·rw[ae (Tt ra)]
    simp only[<-c1',decide_true,ay,ap,if_false,c2,c1,bG]
    cases hA:a.all (okA t.1.length t.2.2.1.length)
    ·simp
    ·simp only[ay,ap,if_false,bG]
     rw[<-c2]
     refine(eo (after:=k ((),(((j+1:Nat):Int),()))) g (okG t.1.length) (some ((23,()),())) (λi=>((),((i:Int),()))) (λi hi k2=>?_) (λk2=>?_) N0 (by unfold N0;omega))
     ·have ci:(i:Int)<(g.length:Int):=by omega
      simp only[ci,if_true,aB,aa,List.getElem?_eq_getElem hi,nM hi (by omega)]
      generalize g[i]=x
      unfold okG
      by_cases d1:x < -1
      ·have:¬-1<=x:=by omega
       simp[d1,this]
      ·by_cases d2:(t.1.length:Int)<=x
       ·have d3:¬x<(t.1.length:Int):=by omega
        simp[d1,d2,d3]
       ·have d3:x<(t.1.length:Int):=by omega
        have d4:-1<=x:=by omega
        simp[d1,d2,d3,d4]
     ·simp only[gy,if_false]
   ·simp[<-c1',c2,c1]
  ·have c1':¬(a.length:Int)=IntKind.wrap .i64 (tok+1):=λe=>c1 (hwt.1 e)
   simp[c1',c1]
 ·simp only[gy,if_false]
  refine B8 t.2.2.1.length (slC t so) _ _ (λj=>((),((j:Int),()))) (λj hj k=>?_) (λk=>?_) N0 (by unfold N0;omega)
  ·have hjl:j<t.2.2.2.length:=by omega
   have c:(j:Int)<(t.2.2.1.length:Int):=by omega
   have hsl:slC t so j=(decide (0<=t.2.2.1[j])&&(decide (t.2.2.1[j]<so)&&(decide (0<=t.2.2.2[j])&&decide (t.2.2.2[j]<=12)))):=by
    unfold slC
    rw[List.getElem?_eq_getElem hj,List.getElem?_eq_getElem hjl]
   rw[hsl]
   simp only[c,if_true,aB,aa,List.getElem?_eq_getElem hj,List.getElem?_eq_getElem hjl,nM hj (by omega)]
   generalize t.2.2.1[j]=s
   generalize t.2.2.2[j]=l
   by_cases d1:s<0
   ·have:¬0<=s:=by omega
    simp[d1,this]
   ·have d1':0<=s:=by omega
    by_cases d2:so<=s
    ·have:¬s<so:=by omega
     simp[d1,d2,this]
    ·have d2':s<so:=by omega
     by_cases d3:l<0
     ·have:¬0<=l:=by omega
      simp[d1,d2,d3,this]
     ·have d3':0<=l:=by omega
      by_cases d4:12<l
      ·have:¬l<=12:=by omega
       simp[d1,d2,d3,d4,this]
      ·have:l<=12:=by omega
       simp[d1,d1',d2,d2',d3,d3',d4,this]
  ·simp only[gy,if_false]
end
noncomputable section
theorem zw(g:Grm)(r:Int)(hl:g.2.2.2.1.length<=maxLen)(hr:∀ l∈g.2.2.2.1,l.2.length<=maxLen):HH N0 (g,(r,()))=kE (lev r g.2.2.2.1 0):=by
 delta HH Ld Bd Wi
 refine a8 (λj=>((),((j:Int),()))) (λj=>kE (lev r (g.2.2.2.1.drop j) j)) g.2.2.2.1.length (λj hj k hk=>?_) N0 0 (az _) (by have:=gd hl;omega)
 rcases aj j g.2.2.2.1.length with hlt|hge
 ·have hk:=hk hlt
  have hc:((j:Nat):Int)<(g.2.2.2.1.length:Int):=by omega
  have hd:g.2.2.2.1.drop j=g.2.2.2.1[j]::g.2.2.2.1.drop (j+1):=cq hlt
  simp only[hc,decide_true,cond_true,aa,aB,if_true,List.getElem?_eq_getElem hlt,hd,lev]
  have hr':=hr _ (aN hlt)
  generalize g.2.2.2.1[j]=l at hr' |-
  refine(a8 (λm=>((),((m:Int),()))) (λm=>if r∈l.2.drop m then kE (((j+1:Nat):Int),l.1)else kE (lev r (g.2.2.2.1.drop (j+1)) (j+1))) l.2.length (λm hm k2 hk2=>?_) N0 0 (az _) (by have:=gd hr';omega)).trans ?_
  ·rcases aj m l.2.length with zt|Tn
   ·have hk2:=hk2 zt
    have hc2:((m:Nat):Int)<(l.2.length:Int):=by omega
    have hd2:l.2.drop m=l.2[m]::l.2.drop (m+1):=cq zt
    simp only[hc2,decide_true,cond_true,aa,aB,if_true,List.getElem?_eq_getElem zt,hd2,aI,aX hlt hl,aX zt hr',bx,decide_eq_true_eq,hk2]
    by_cases e:l.2[m]=r
    ·simp[e]
    ·simp[e,Ne.symm e]
   ·have hc2:¬((m:Nat):Int)<(l.2.length:Int):=by omega
    simp only[hc2,decide_false,cond_false,dX Tn,bU,if_false,aX hlt hl]
    exact hk
  ·rw[dm];split <;> rfl
 ·have hc:¬((j:Nat):Int)<(g.2.2.2.1.length:Int):=by omega
  simp only[hc,decide_false,cond_false,dX hge,lev]
theorem Tv(g:Grm)(n:Int)(hg:GOk g):p84 N0 (g,(n,()))=kE (ofp g n):=by
 delta p84 Ld Bd Wi
 simp only[aE,bx]
 unfold ofp
 by_cases h1:n<0
 ·simp[h1,kE]
 ·by_cases h2:(g.2.2.1.length:Int)<=n
  ·simp[h1,h2,kE]
  ·obtain⟨m,rfl⟩:∃ m:Nat,n=m:=⟨n.toNat,by omega⟩
   have hm:m<g.2.2.1.length:=by omega
   simp only[h1,h2,decide_false,ap,if_false,or_self,aa,aB,if_true,List.getElem?_eq_getElem hm]
   have hb:=hg.pb _ (aN hm)
   generalize g.2.2.1[m]=p at hb |-
   by_cases h3:0<=p.2.2.2.2.1
   ·simp only[h3,decide_true,if_true]
    rw[zw g _ hg.ls hg.lr]
    rfl
   ·simp only[h3,decide_false,ap,if_false]
    let F:=λj:Nat=>(p.2.2.1.take j).foldl (lD g.2.2.2.1) (0,0)
    have hF:∀ i (hi:i<p.2.2.1.length),F (i+1)=lD g.2.2.2.1 (F i) p.2.2.1[i]:=λi hi=>by
     show(p.2.2.1.take (i+1)).foldl _ _=_
     rw[nQ hi,eD];rfl
    refine(a8 (λj:Nat=>((),((F j).1,((F j).2,((j:Int),()))))) (λj=>kE (F p.2.2.1.length)) p.2.2.1.length (λj hj k hk=>?_) N0 0 (az _) (by have:=gd hb;omega)).trans (by show kE ((p.2.2.1.take p.2.2.1.length).foldl _ _)=_;rw[dj])
    rcases aj j p.2.2.1.length with hi|hi
    ·have hk:=hk hi
     have hc:(j:Int)<(p.2.2.1.length:Int):=by omega
     simp only[hc,decide_true,if_true,aa,aB,List.getElem?_eq_getElem hi,aX hi hb]
     rw[zw g _ hg.ls hg.lr]
     rw[hF j hi]at hk
     unfold lD at hk
     by_cases hs:p.2.2.1[j].1=true
     ·simp only[hs,if_true]at hk |-;exact hk
     ·simp only[hs,ap,if_false,aD]at hk |-
      by_cases hl:0<(lev p.2.2.1[j].2 g.2.2.2.1 0).1
      ·simp only[hl,decide_true,if_true]at hk |-;exact hk
      ·simp only[hl,decide_false,ap,if_false]at hk |-;exact hk
    ·have hc:¬(j:Int)<(p.2.2.1.length:Int):=by omega
     have:j=p.2.2.1.length:=by omega
     simp[hc,this,kE]
theorem Tw(g:Grm)(n t:Int)(hg:GOk g):p55 N0 (g,(n,(t,())))=some ((dec (ofp g n) (lev t g.2.2.2.1 0),()),()):=by
 delta p55 Bd
 simp only[Tv g n hg,zw g t hg.ls hg.lr,aD,aE,bx,decide_eq_true_eq,dec]
 repeat' split
 all_goals first|rfl|(simp_all;done)|(simp_all;omega)
theorem Mo{g:Grm}{w:StB}(hk:OkB g w.1.length w)(st:Int)(x:SyS):p21 N0 (w,(st,(x,())))=some ((goW w st x,()),()):=by
 delta p21 Ld Bd Wi
 simp only[aE]
 simp only[bx,decide_eq_true_eq]
 by_cases h0:st<0
 ·rw[if_pos h0,if_pos trivial,oV hk (.inl h0)]
 rw[if_neg h0]
 by_cases h1:(w.2.1.length:Int)<=st
 ·rw[if_pos h1,oV hk (.inr (by rw[hk.l1]at h1;exact h1))]
 rw[if_neg h1]
 rw[hk.l1]at h1
 obtain⟨l,sy,to,g1,g2,g3,_,g5,g6,g7,g8⟩:=zq hk (by omega:0<=st) (by omega) x
 have hsl:=j6 g l
 rw[<-g6]at hsl
 have hp:=zp (x:=x) (l:=sy)
 have h00:0<=st:=by omega
 simp only[h00,if_true,g2,g3]
 refine a8 (λk=>((),((k:Int),()))) (λ_=>some ((goW w st x,()),())) (mK x sy) (λk hk' L hL=>?_) N0 0 (az _) (by unfold N0;omega)
 rw[g8]at hL |-
 rcases aj k sy.length with hkl|hkl
 ·have ck:(k:Int)<(sy.length:Int):=by omega
  have hk1:IntKind.wrap .i64 ((k:Int)+1)=((k+1:Nat):Int):=bJ hkl (by omega)
  have hkt:k<to.length:=by omega
  simp only[ck,if_true,aB,aa,List.getElem?_eq_getElem hkl,List.getElem?_eq_getElem hkt,hk1]
  rcases aj k (mK x sy)with hlt|hge
  ·have hf:=Mf (zo k hkl hlt)
   simp only[<-bx,hf,cond_false]
   exact hL hlt
  ·have e:k=mK x sy:=by omega
   have he:sy[k]=x:=by
    by_cases hm:x∈sy
    ·have:=lC hm
     rw[<-e,List.getElem?_eq_getElem hkl]at this
     exact dz this
    ·have:=mn hm
     omega
   have ht:=Me he
   simp only[<-bx,ht,cond_true]
   unfold goN
   rw[<-e,List.getElem?_eq_getElem hkt]
   exact if_pos trivial
 ·have ck:¬(k:Int)<(sy.length:Int):=by omega
  simp only[ck,if_false]
  unfold goN
  rw[List.getElem?_eq_none (by omega)]
end
noncomputable section
def mvT(w:StB)(i:Nat)(a:List Ac)(k:Nat):List Ac:=if 0<=goW w (i:Int) (false,(k:Int))then a.set k (1,goW w (i:Int) (false,(k:Int)))else a
def tz(w:StB)(nR i j:Nat):List Ac:=(List.range j).foldl (mvT w i) (List.replicate (nR+1) (0,0))
theorem oY(w:StB)(nR i j:Nat):tz w nR i (j+1)=mvT w i (tz w nR i j) j:=by
 unfold tz;rw[dY,eD];rfl
theorem nN(w:StB)(nR i:Nat):∀ j,(tz w nR i j).length=nR+1
 |0=>by simp[tz]
 |j+1=>by
  rw[oY];unfold mvT;split
  ·rw[fa,nN w nR i j]
  ·exact nN w nR i j
theorem B9(w:StB)(nR i k:Nat)(hk:k<=nR):∀ j,(tz w nR i j)[k]?=some (if k<j/\0<=goW w (i:Int) (false,(k:Int))then(1,goW w (i:Int) (false,(k:Int)))else(0,0))
 |0=>by simp[tz,List.getElem?_replicate];omega
 |j+1=>by
  have ih:=B9 w nR i k hk j
  have hl:=nN w nR i j
  rw[oY];unfold mvT
  by_cases e:k=j
  ·subst e
   by_cases h:0<=goW w (i:Int) (false,(k:Int))
   ·rw[if_pos h,if_pos ⟨by omega,h⟩,List.getElem?_set_self (by omega)]
   ·rw[if_neg h,ih,if_neg (λx=>h x.2),if_neg (λx=>h x.2)]
  ·by_cases h:0<=goW w (i:Int) (false,(j:Int))
   ·rw[if_pos h,List.getElem?_set,if_neg (Ne.symm e),ih]
    congr 1
    by_cases c:k<j/\0<=goW w (i:Int) (false,(k:Int))
    ·rw[if_pos c,if_pos ⟨by omega,c.2⟩]
    ·rw[if_neg c,if_neg (λx=>c ⟨by omega,x.2⟩)]
   ·rw[if_neg h,ih]
    congr 1
    by_cases c:k<j/\0<=goW w (i:Int) (false,(k:Int))
    ·rw[if_pos c,if_pos ⟨by omega,c.2⟩]
    ·rw[if_neg c,if_neg (λx=>c ⟨by omega,x.2⟩)]
theorem sE{g:Grm}{w:StB}(t:Trd g w){i:Nat}{L:List ItS}{sy:List SyS}{to:List Int}(hL:w.1[i]?=some L)(h2:w.2.1[i]?=some sy)(h3:w.2.2[i]?=some to):tz w g.1.length i g.1.length=gV g.1.length (sy.zip to):=by
 apply List.ext_getElem?
 intro k
 rcases aj g.1.length k with h|h
 ·rw[List.getElem?_eq_none (by rw[nN];omega),List.getElem?_eq_none (by rw[lE];omega)]
 ·rw[B9 w _ i k h,Ml t hL h2 h3 h]
  congr 1
  rcases aj k g.1.length with hk|hk
  ·by_cases c:0<=goW w (i:Int) (false,(k:Int))
   ·rw[if_pos ⟨hk,c⟩,if_pos c]
   ·rw[if_neg (λx=>c x.2),if_neg c]
  ·have e:k=g.1.length:=by omega
   subst e
   rw[if_neg (λx=>dZ _ x.1),if_neg]
   intro hc
   have hi:=(List.getElem?_eq_some_iff.1 hL).1
   obtain⟨L',r1,r2,to',r3,r4,r5⟩:=t.okB.row i hi
   rw[hL]at r1;cases r1
   rw[h2]at r2;cases r2
   have hgo:goW w (i:Int) (false,(g.1.length:Int))=goN (bM g L) to (false,(g.1.length:Int)):=by
    unfold goW
    rw[if_neg (by omega),aa,h2,h3]
   have hm:¬(false,(g.1.length:Int))∈bM g L:=λhm=>by
    have:=(zu t.e0 (((ml g L).mem _).1 hm) rfl).2
    simp only at this;omega
   rw[hgo]at hc
   unfold goN at hc
   rw[h3]at r3;cases r3
   rw[mn hm,List.getElem?_eq_none (by omega)]at hc
   exact absurd (show(0:Int)<=-1 from hc) (by omega)
def qO(look:Int)(t:Nat):List Nat:=(List.range t).filter λb=>look.toNat.testBit b
theorem DW(look:Int)(t:Nat):qO look (t+1)=qO look t++(if look.toNat.testBit t=true then [t]else []):=by
 unfold qO
 rw[dY,jx]
 cases h:look.toNat.testBit t <;> simp[h]
theorem Ih(look:Int)(t:Nat):(qO look t).length<=t:=bE (fB _ _) (by simp)
theorem Ii(g:Grm)(i:Nat)(q:Int)(s:RwS)(a b:List Nat):fV g i q s (a++b)=fV g i q (fV g i q s a) b:=by
 unfold fV;rw[eD]
def wz(n nP:Nat)(a:Ac):Prop:=a.1=0\/(a.1=1/\0<=a.2/\a.2<(n:Int))\/(a.1=2/\0<=a.2/\a.2<(nP:Int))\/a.1=3
def vO(n nP:Nat)(l:List Ac):Prop:=∀ a∈l,wz n nP a
theorem vO.set{n nP:Nat}{l:List Ac}(h:vO n nP l){a:Ac}(ha:wz n nP a)(k:Nat):vO n nP (l.set k a):=λb hb=>by
 rcases List.mem_or_eq_of_mem_set hb with h1|h1
 ·exact h b h1
 ·rw[h1];exact ha
theorem FO{g:Grm}{w:StB}(t:Trd g w)(st:Int)(x:SyS):-1<=goW w st x/\goW w st x<(w.1.length:Int):=by
 by_cases h:st<0\/(w.1.length:Int)<=st
 ·rw[oV t.okB h x];omega
 obtain⟨l,sy,to,g1,g2,g3,g4,g5,g6,g7,g8⟩:=zq t.okB (st:=st) (by omega) (by omega) x
 rw[g8]
 by_cases hm:x∈sy
 ·have hp:=lC hm
  obtain⟨l',r1,r2,to',r3,r4,r5⟩:=t.okB.row st.toNat (by omega)
  rw[g1]at r1;cases r1
  rw[g3]at r3;cases r3
  rw[g6]at hp
  obtain⟨t',t1,t2⟩:=r5 _ _ hp
  unfold goN
  rw[g6,t1]
  have:=(List.getElem?_eq_some_iff.1 t2).1
  simp only;omega
 ·unfold goN
  rw[mn hm,List.getElem?_eq_none (by omega)]
  simp only;omega
theorem Tx{g:Grm}{w:StB}(t:Trd g w)(st:Int)(x:SyS):goW w st x<(w.1.length:Int):=(FO t st x).2
theorem tS{g:Grm}{w:StB}(t:Trd g w)(nP i:Nat):∀ j,vO w.1.length nP (tz w g.1.length i j)
 |0=>λa ha=>by
  unfold tz at ha
  rw[List.range_zero,List.foldl_nil]at ha
  rw[List.eq_of_mem_replicate ha];exact .inl rfl
 |j+1=>by
  rw[oY];unfold mvT;split
  ·rename_i h
   exact(tS t nP i j).set (.inr (.inl ⟨rfl,h,by simpa using Tx t (i:Int) (false,(j:Int))⟩)) _
  ·exact tS t nP i j
theorem P6{g:Grm}(n:Nat){q:Int}(h:0<=q/\q<=(g.2.2.1.length:Int)):wz n g.2.2.1.length (jt g q):=by
 unfold jt wz
 by_cases e:q=(g.2.2.1.length:Int)
 ·rw[if_pos e];exact .inr (.inr (.inr rfl))
 ·rw[if_neg e];exact .inr (.inr (.inl ⟨rfl,h.1,by simp only;omega⟩))
theorem P7{n nP:Nat}{st at' q:Int}{now was:Ac}{d:Int}(h1:wz n nP now)(h2:wz n nP was):wz n nP (qN st at' q now was d).1:=by
 unfold qN
 repeat' split
 all_goals first|exact h1|exact h2|exact .inl rfl
theorem Ca(g:GrS)(dec:Int->Nat->Int)(st q:Int)(s:RwS){t:Nat}(h:t<s.1.length):stepT g dec st q s t=(s.1.set t (qN st (t:Int) q (jt g q) s.1[t] (dec q t)).1,s.2++(qN st (t:Int) q (jt g q) s.1[t] (dec q t)).2):=by
 unfold stepT
 rw[List.getElem?_eq_getElem h]
theorem vP{g:Grm}{i n:Nat}{q:Int}(hq:0<=q/\q<=(g.2.2.1.length:Int)):∀ (ts:List Nat) (s:RwS),vO n g.2.2.1.length s.1->vO n g.2.2.1.length (fV g i q s ts).1
 |[],s,h=>h
 |t::ts,s,h=>by
  refine vP hq ts (stepT g (o7 g) (i:Int) q s (atT g.1.length t)) ?_
  rcases aj (atT g.1.length t) s.1.length with hl|hl
  ·rw[Ca _ _ _ _ _ hl]
   exact h.set (P7 (P6 n hq) (h _ (aN hl))) _
  ·unfold stepT
   rw[List.getElem?_eq_none hl]
   exact h
theorem vQ{g:Grm}{i n:Nat}:∀ (wl:List ItS) (s:RwS),RgP g wl->vO n g.2.2.1.length s.1->vO n g.2.2.1.length (wl.foldl (xB g i) s).1
 |[],s,_,h=>h
 |x::wl,s,hr,h=>vQ wl _ (λy hy=>hr y (bB _ hy)) (vP (hr x bu) _ s h)
theorem Tz(a b:Int×Int):dec a b=0\/dec a b=1\/dec a b=2\/dec a b=3:=by
 unfold dec
 repeat' split
 all_goals omega
theorem DX(g:Grm)(i:Nat)(a:List Ac)(wl:List ItS):(dr g i a wl).1.length=a.length/\(dr g i a wl).2.length<=wl.length*64:=by
 have:=oX g i a wl wl.length (aw _)
 rw[dj]at this
 exact this
theorem Ij(g:Grm)(i:Nat)(a:List Ac)(wl:List ItS)(x:ItS):dr g i a (wl++[x])=xB g i (dr g i a wl) x:=by unfold dr;rw[eD];rfl
theorem Mp{g:Grm}{w:StB}(t:Trd g w)(gok:GOk g)(hR:g.1.length<=20){i:Nat}(hi:i<w.1.length):
 p19 N0 (g,(w,((i:Int),())))=some (((fi g w i).1,((fi g w i).2,())),()):=by
 have hk:=t.okB
 have hmx:=hk.mx
 obtain⟨L,sy,to,g1,g2,g3,g4,g5,g6,g7⟩:=qL hk hi
 have eR:fi g w i=dr g i (gV g.1.length (sy.zip to)) (L.filter (fq g)):=by unfold fi;rw[g1,g4]
 have hLm:=List.mem_of_getElem? g1
 have hbd:=(hk.it L hLm).1.bd
 have hlk:=Tm t L hLm
 have hw1:IntKind.wrap .i64 ((g.1.length:Int)+1)=((g.1.length+1:Nat):Int):=bJ (cH _) (by omega)
 delta p19 Ld Ap Bd Wi
 simp only[aE]
 simp only[bx,decide_eq_true_eq,hw1,aa]
 rw[if_pos ⟨by omega,by omega⟩,if_pos (by omega),if_neg (by omega),if_neg (by omega)]
 refine a8 (λj=>((tz w g.1.length i j,()),((j:Int),()))) (λ_=>some (((fi g w i).1,((fi g w i).2,())),())) g.1.length (λj hj K hK=>?_) N0 0 (az _) (by unfold N0;omega)
 rcases aj j g.1.length with hjl|hjl
 ·have c:(j:Int)<(g.1.length:Int):=by omega
  have hK:=hK hjl
  have hj1:IntKind.wrap .i64 ((j:Int)+1)=((j+1:Nat):Int):=bJ hjl (by omega)
  have hal:=nN w g.1.length i j
  rw[oY]at hK
  simp only[c,if_true,hj1]
  rw[ae (Mo hk (i:Int) (false,(j:Int)))]
  unfold mvT at hK
  have hlt:j<(tz w g.1.length i j).length:=by omega
  by_cases h0:0<=goW w (i:Int) (false,(j:Int))
  ·rw[if_pos h0]at hK
   simp only[h0,if_true,aB,aa,List.getElem?_eq_getElem hlt]
   exact hK
  ·rw[if_neg h0]at hK
   simp only[h0,if_false]
   exact hK
 ·have c:¬(j:Int)<(g.1.length:Int):=by omega
  have e:j=g.1.length:=by omega
  subst e
  simp only[c,if_false]
  rw[sE t g1 g2 g3,eR]
  have hal:=lE g.1.length (sy.zip to)
  have hA0:vO w.1.length g.2.2.1.length (gV g.1.length (sy.zip to)):=by rw[<-sE t g1 g2 g3];exact tS t _ i _
  have hrg:=DT t L hLm
  generalize gV g.1.length (sy.zip to)=A0 at *
  clear hK
  refine a8 (λk=>(((dr g i A0 ((L.take k).filter (fq g))).1,()),((dr g i A0 ((L.take k).filter (fq g))).2,((k:Int),())))) (λ_=>some (((dr g i A0 (L.filter (fq g))).1,((dr g i A0 (L.filter (fq g))).2,())),())) L.length (λk hk' M hM=>?_) N0 0 (az _) (by unfold N0;omega)
  rcases aj k L.length with hkl|hkl
  ·have ck:(k:Int)<(L.length:Int):=by omega
   have hM:=hM hkl
   have hk1:IntKind.wrap .i64 ((k:Int)+1)=((k+1:Nat):Int):=bJ hkl (by omega)
   have hx:=hbd _ (aN hkl)
   have hxl:=hlk _ (aN hkl)
   have hrl:=DX g i A0 ((L.take k).filter (fq g))
   have hfl:((L.take k).filter (fq g)).length<=k:=bE (fB _ _) (by rw[aL];omega)
   rw[ta _ _ hkl]at hM
   simp only[ck,if_true,aB,aa,g1,List.getElem?_eq_getElem hkl,hk1]
   have hap:=Ij g i A0 ((L.take k).filter (fq g)) L[k]
   have hxm:L[k]∈L:=aN hkl
   have hso:vO w.1.length g.2.2.1.length (dr g i A0 ((L.take k).filter (fq g))).1:=vQ _ _ (λy hy=>hrg y (nY (fG.1 hy).1)) hA0
   generalize hse:dr g i A0 ((L.take k).filter (fq g))=s at *
   generalize L[k]=x at *
   rw[ae (DE g x.1)]
   simp only
   cases hwh:fq g x
   ·have hd:¬x.2.1=((di g x.1).1.length:Int):=by simpa [fq]using hwh
    rw[hwh]at hM
    simp only[ap,if_false,bV]at hM
    simp only[hd,decide_false,aH,if_true]
    rw[hse]at hM
    exact hM
   have hd:x.2.1=((di g x.1).1.length:Int):=by simpa [fq]using hwh
   rw[hwh]at hM
   simp only[if_true]at hM
   rw[hap]at hM
   simp only[hd,decide_true,ay,ap,if_false]
   have hsl:s.1.length=g.1.length+1:=by omega
   have hs2:s.2.length<=17472:=by omega
   clear hap hk' hrl eR
   refine a8 (λu=>(((fV g i x.1 s (qO x.2.2 u)).1,()),((fV g i x.1 s (qO x.2.2 u)).2,((u:Int),())))) (λ_=>some (((dr g i A0 (L.filter (fq g))).1,((dr g i A0 (L.filter (fq g))).2,())),())) 64 (λu hu P hP=>?_) N0 0 (az _) (by unfold N0;omega)
   have hFl:=oW g i x.1 (qO x.2.2 u) s
   have hFo:=vP (i:=i) (n:=w.1.length) (hrg _ hxm) (qO x.2.2 u) s hso
   have hul:=Ih x.2.2 u
   rcases aj u 64 with TA|TA
   ·have cu:(u:Int)<=63:=by omega
    have hP:=hP TA
    have hu1:IntKind.wrap .i64 ((u:Int)+1)=((u+1:Nat):Int):=bJ (by omega:u<1000) (by omega)
    rw[DW,Ii]at hP
    generalize fV g i x.1 s (qO x.2.2 u)=F at *
    simp only[cu,if_true,hu1]
    have e3:x.1=(g.2.2.1.length:Int)->jt g x.1=((3:Int),x.1):=λe=>by unfold jt;rw[if_pos e]
    have e2:¬x.1=(g.2.2.1.length:Int)->jt g x.1=((2:Int),x.1):=λe=>by unfold jt;rw[if_neg e]
    have hU:U64 x.2.2:=hx
    have hsk:x.2.2.toNat.testBit u=false->P ((F.1,()),(F.2,(((u+1:Nat):Int),())))=some (((dr g i A0 (L.filter (fq g))).1,((dr g i A0 (L.filter (fq g))).2,())),()):=λhb=>by
     rw[hb]at hP
     exact hP
    have hta:x.2.2.toNat.testBit u=true->atT g.1.length u<F.1.length->P (((F.1.set (atT g.1.length u) (qN (i:Int) ((atT g.1.length u:Nat):Int) x.1 (jt g x.1) (F.1[atT g.1.length u]?.getD (0,0)) (o7 g x.1 (atT g.1.length u))).1),()),(F.2++(qN (i:Int) ((atT g.1.length u:Nat):Int) x.1 (jt g x.1) (F.1[atT g.1.length u]?.getD (0,0)) (o7 g x.1 (atT g.1.length u))).2,(((u+1:Nat):Int),())))=some (((dr g i A0 (L.filter (fq g))).1,((dr g i A0 (L.filter (fq g))).2,())),()):=λhb hl=>by
     rw[hb]at hP
     have:=Ca g (o7 g) (i:Int) x.1 F hl
     rw[show fV g i x.1 F (if true=true then [u]else [])=stepT g (o7 g) (i:Int) x.1 F (atT g.1.length u)from rfl,this]at hP
     rw[List.getElem?_eq_getElem hl]
     exact hP
    have Zj:jt g x.1=(if x.1=(g.2.2.1.length:Int)then 3 else 2,x.1):=rfl
    have h55:=λk:Nat=>Tw g x.1 (k:Int) gok
    have hdr:∀ k:Nat,_:=λk=>Tz (ofp g x.1) (lev (k:Int) g.2.2.2.1 0)
    have V5:(u:Int)=63↔u=63:=by omega
    have hF2:F.2.length<=20000:=by omega
    have Zk:F.1.length=g.1.length+1:=by omega
    clear hP hM hFl hfl
    by_cases h63:u=63
    rw[if_pos (V5.2 h63)]
    rotate_left
    rw[if_neg λh=>h63 (V5.1 h)]
    by_cases hnr:(g.1.length:Int)<=(u:Int)
    ·rw[if_pos hnr]
     refine hsk ?_
     cases hb:x.2.2.toNat.testBit u
     ·rfl
     ·rcases hxl u hb with h|h <;> omega
    rw[if_neg hnr]
    rw[show atT g.1.length u=u from if_neg h63]at hta
    have hat:u<F.1.length:=by omega
    obtain⟨ix,YS⟩:∃ ix,ix=u:=⟨u,rfl⟩
    subst YS
    rotate_left
    rw[show atT g.1.length u=g.1.length from if_pos h63]at hta
    have hat:g.1.length<F.1.length:=by omega
    clear hxl
    generalize g.1.length=ix at *
    all_goals
     rw[ae (Dw hU TA)]
     simp only[aB,if_true,aa]
     refine(Classical.em (x.2.2.toNat.testBit _=true)).elim (λhb=>?_) (λhb=>by
      rw[Bool.eq_false_iff.2 hb]
      simp only[aH,if_true]
      exact hsk (Bool.eq_false_iff.2 hb))
     have hta:=hta hb hat
     rw[hb]
     rw[List.getElem?_eq_getElem hat,oc]at hta
     have YT:=hFo _ (aN hat)
     have db:∀ y:Ac,(F.1.set ix y)[ix]?=some y:=λy=>List.getElem?_set_self hat
     simp only[ay,ap,if_false,List.getElem?_eq_getElem hat,db,aO,bn]
     have V7:F.1.set ix F.1[ix]=F.1:=List.set_getElem_self hat
     generalize F.1[ix]=was at *
     have xN:(F.2.length+(0+1))*48<=140737488355328:=by omega
     have zK:F.2.length+(0+1)<=9223372036854775807:=by omega
     simp only[xN,zK,if_true]
     have h55:=h55 ix
     have hdr:=hdr ix
     have hdc:o7 g x.1 ix=dec (ofp g x.1) (lev (ix:Int) g.2.2.2.1 0):=rfl
     rw[hdc]at hta
     generalize dec (ofp g x.1) (lev (ix:Int) g.2.2.2.1 0)=d at *
     unfold wz at YT
     by_cases hq:x.1=(g.2.2.1.length:Int)
     first|(rw[e3 hq]at hta;rw[if_pos hq])
     rotate_left
     rw[e2 hq]at hta;rw[if_neg hq]
     all_goals
      unfold qN at hta
      by_cases k0:was.1=0
      ·simp only[k0,if_true,bV]at hta |-
       exact hta
      by_cases k1:1<was.1
      ·rw[if_neg k0,if_neg (by omega:¬was.1=1)]at hta
       rw[if_neg k0,if_pos k1]
       rw[V7]at hta
       exact hta
      have k2:was.1=1:=by omega
      rw[if_neg k0,if_pos k2]at hta
      rw[if_neg k0,if_neg k1,ae h55]
      rcases hdr with hd'|hd'|hd'|hd'
      all_goals
       subst hd'
       simp only[V7,k2,Int.reduceEq,if_true,if_false,decide_true,decide_false]at hta |-
       exact hta
   ·have cu:¬(u:Int)<=63:=by omega
    have e:u=64:=by omega
    subst e
    simp only[cu,if_false]
    exact hM
  ·have ck:¬(k:Int)<(L.length:Int):=by omega
   rw[bK hkl]
   simp only[ck,if_false,aB,if_true,aa,g1]
end
noncomputable section
def sF(w:StB)(nS:Nat)(i:Nat):List Int:=(List.range nS).map λ(k:Nat)=>goW w (i:Int) (true,(k:Int))
def qP(w:StB)(nS n:Nat):List (List Int):=(List.range n).map (sF w nS)
theorem Ik(w:StB)(i j:Nat):sF w (j+1) i=sF w j i++[goW w (i:Int) (true,(j:Int))]:=by unfold sF;rw[dY,cO];rfl
theorem Il(w:StB)(nS j:Nat):qP w nS (j+1)=qP w nS j++[sF w nS j]:=by unfold qP;rw[dY,cO];rfl
theorem qQ(w:StB)(nS i:Nat):(sF w nS i).length=nS:=by unfold sF;simp
theorem qR(w:StB)(nS n:Nat):(qP w nS n).length=n:=by unfold qP;simp
def nO(g:Grm)(w:StB):tw:=(pJ g w w.1.length,(qP w g.2.1.length w.1.length,(g.2.2.1.map (·.1),g.2.2.1.map λp=>(p.2.2.1.length:Int))))
def Im(g:Grm)(w:StB):List Cla:=(gW g w w.1.length).filter mq
theorem TB{g:Grm}{w:StB}(t:Trd g w)(gok:GOk g)(hR:g.1.length<=20)(hS:g.2.1.length<=1000)(hP:g.2.2.1.length<=1000):
 p18 N0 (g,())=some ((if 0<(Im g w).length then((([],([],([],[]))):tw),(gW g w w.1.length,((18:Int),())))else(nO g w,(gW g w w.1.length,(0,())))),()):=by
 have hk:=t.okB
 have hmx:=hk.mx
 have hcl:=nL t w.1.length (aw _)
 have YU:((gW g w w.1.length).filter mq).length=(Im g w).length:=rfl
 delta p18 Ld Ap Bd Wi
 simp only[aE]
 simp only[bx,decide_eq_true_eq]
 rw[ae t.p18]
 simp only[decide_true,ay,ap,if_false]
 rw[ae (Tq t gok hR)]
 simp only
 rw[ae (Ts (by omega))]
 simp only[YU]
 by_cases ho:0<(Im g w).length
 ·rw[if_pos (by omega),if_pos ho]
 rw[if_neg (by omega),if_neg ho]
 rw[ae (DR _)]
 simp only
 refine a8 (λj=>(((([],([],([],[]))):tw),((pJ g w w.1.length,(qP w g.2.1.length j,([],[]))),())),((j:Int),()))) (λ_=>some ((nO g w,(gW g w w.1.length,(0,()))),())) w.1.length (λj hj K hK=>?_) N0 0 (az _) (by unfold N0;omega)
 rcases aj j w.1.length with hjl|hjl
 ·have c:(j:Int)<(w.1.length:Int):=by omega
  have hK:=hK hjl
  have hj1:IntKind.wrap .i64 ((j:Int)+1)=((j+1:Nat):Int):=nM hjl (by omega)
  rw[Il]at hK
  have hgl:=qR w g.2.1.length j
  simp only[c,if_true,hj1]
  refine a8 (λu=>(((([],([],([],[]))):tw),((pJ g w w.1.length,(qP w g.2.1.length j,([],[]))),())),(sF w u j,((u:Int),())))) (λ_=>some ((nO g w,(gW g w w.1.length,(0,()))),())) g.2.1.length (λu hu M hM=>?_) N0 0 (az _) (by unfold N0;omega)
  have hrl:=qQ w u j
  rcases aj u g.2.1.length with hul|hul
  ·have cu:(u:Int)<(g.2.1.length:Int):=by omega
   have hM:=hM hul
   have hu1:IntKind.wrap .i64 ((u:Int)+1)=((u+1:Nat):Int):=nM hul (by omega)
   rw[Ik]at hM
   simp only[cu,if_true,hu1,aO,bn]
   rw[ae (Tg hk _ _)]
   simp only
   rw[if_pos (by omega),if_pos (by omega)]
   exact hM
  ·have cu:¬(u:Int)<(g.2.1.length:Int):=by omega
   have e:u=g.2.1.length:=by omega
   subst e
   simp only[cu,if_false,aO,bn]
   rw[if_pos (by omega),if_pos (by omega)]
   exact hK
 ·have c:¬(j:Int)<(w.1.length:Int):=by omega
  have e:j=w.1.length:=by omega
  subst e
  simp only[c,if_false]
  refine a8 (λu=>(((([],([],([],[]))):tw),((pJ g w w.1.length,(qP w g.2.1.length w.1.length,((g.2.2.1.take u).map (·.1),(g.2.2.1.take u).map λp=>(p.2.2.1.length:Int)))),())),((u:Int),()))) (λ_=>some ((nO g w,(gW g w w.1.length,(0,()))),())) g.2.2.1.length (λu hu M hM=>?_) N0 0 (az _) (by unfold N0;omega)
  rcases aj u g.2.2.1.length with hul|hul
  ·have cu:(u:Int)<(g.2.2.1.length:Int):=by omega
   have hM:=hM hul
   have hu1:IntKind.wrap .i64 ((u:Int)+1)=((u+1:Nat):Int):=nM hul (by omega)
   rw[cJ _ _ hul]at hM
   have htl:(g.2.2.1.take u).length=u:=by rw[aL];omega
   simp only[cu,if_true,hu1,aO,bn,bq,aB,aa,List.getElem?_eq_getElem hul,htl]
   rw[if_pos (by omega),if_pos (by omega),if_pos (by omega),if_pos (by omega)]
   rw[cO,cO]at hM
   exact hM
  ·have cu:¬(u:Int)<(g.2.2.1.length:Int):=by omega
   rw[bK hul]
   simp only[cu,if_false]
   rfl
theorem Mq{g:Grm}(h:(eA g).1=0):∀ p∈g.2.2.1,p.2.2.1.length<=12:=by
 unfold eA at h
 split at h
 ·rename_i h1;exact absurd h h1
 unfold xp at h
 split at h
 ·simp at h
 split at h
 ·rename_i p hp;exact absurd h (jH hp)
 unfold xo at h
 split at h
 ·simp at h
 split at h
 ·rename_i p hp;exact absurd h (jH hp)
 rename_i hpr
 intro p hp
 obtain⟨i,hi⟩:=List.mem_iff_getElem?.1 hp
 have h0:=xz hpr i p hi
 unfold lz at h0
 split at h0
 ·cases h0
 split at h0
 ·cases h0
 split at h0
 ·cases h0
 omega
theorem P8{g:Grm}{w:StB}(t:Trd g w){i:Nat}(hi:i<w.1.length):vO w.1.length g.2.2.1.length (fi g w i).1:=by
 obtain⟨L,sy,to,g1,g2,g3,g4,g5,g6,g7⟩:=qL t.okB hi
 have eR:fi g w i=dr g i (gV g.1.length (sy.zip to)) (L.filter (fq g)):=by unfold fi;rw[g1,g4]
 rw[eR,<-sE t g1 g2 g3]
 exact vQ _ _ (λy hy=>DT t L (List.mem_of_getElem? g1) y (fG.1 hy).1) (tS t _ i _)
theorem TC{n nP:Nat}{a:Ac}(h:wz n nP a):okA n nP a=true:=by
 unfold wz at h
 unfold okA
 simp only[ag,aJ,bC,decide_eq_true_eq,decide_eq_false_iff_not]
 omega
theorem Mr{g:Grm}{w:StB}(t:Trd g w)(h0:0<w.1.length):B7 (nO g w) (g.1.length:Int) (g.2.1.length:Int)=true:=by
 unfold B7 vN nO
 simp only[nK,qR,bq,ag,bC,decide_eq_false_iff_not,decide_eq_true_eq,cG,cr]
 refine⟨⟨by omega,trivial,trivial⟩,λj hj=>?_,λj hj=>?_⟩
 ·unfold DV
  simp only[B6 g w hj,show(qP w g.2.1.length w.1.length)[j]?=some (sF w g.2.1.length j) by unfold qP;simp[hj],(lG t hj).1,qQ,nK,bq,ag,decide_eq_true_eq,cG]
  refine⟨by omega,trivial,λa ha=>TC (P8 t hj a ha),λx hx=>?_⟩
  unfold sF at hx
  obtain⟨k,hk,rfl⟩:=eE.1 hx
  have:=FO t (j:Int) (true,(k:Int))
  unfold okG
  simp only[ag,decide_eq_true_eq]
  exact this
 ·unfold slC
  have h1:=qM t.e0 _ (aN hj)
  have h2:=Mq t.e0 _ (aN hj)
  simp only[List.getElem?_map,List.getElem?_eq_getElem hj,dy,ag,decide_eq_true_eq]
  omega
theorem Ms{g:Grm}{w:StB}(t:Trd g w):Sml (nO g w):=by
 have hmx:=t.okB.mx
 have hR:=t.r20
 have h1:=t.gs.ns
 have h2:=t.gs.ps
 refine⟨?_,?_,?_,?_,λr hr=>?_,λr hr=>?_⟩
 ·show(pJ g w w.1.length).length<=_;rw[nK];omega
 ·show(qP w g.2.1.length w.1.length).length<=_;rw[qR];omega
 ·show(g.2.2.1.map _).length<=_;rw[bq];omega
 ·show(g.2.2.1.map _).length<=_;rw[bq];omega
 ·obtain⟨i,hi,rfl⟩:=eE.1 (show r∈(List.range w.1.length).map _ from hr)
  rw[(lG t (cr.1 hi)).1];omega
 ·obtain⟨i,hi,rfl⟩:=eE.1 (show r∈(List.range w.1.length).map _ from hr)
  rw[qQ];omega
end
noncomputable section
theorem Cb{α:Type}(p:α->Bool)(l:List α){j:Nat}(h:j<l.length):(l.take (j+1)).any p=((l.take j).any p||p l[j]):=by
 rw[cJ _ _ h,rl];simp
theorem Cc(g:Grm)(w:StB)(n:Nat):(gW g w (n+1)).any mq=((gW g w n).any mq||(fi g w n).2.any mq):=by
 rw[lF,rl]
theorem Cd(g:Grm)(w:StB):(0<(Im g w).length)↔(gW g w w.1.length).any mq=true:=by
 unfold Im
 rw[List.length_pos_iff_exists_mem,ic]
 exact⟨λ⟨x,hx⟩=>⟨x,fG.1 hx⟩,λ⟨x,hx⟩=>⟨x,fG.2 hx⟩⟩
theorem Ce{R:Type}{a b o:Bool}{n:Int}{M:Unit×(Bool×(Int×Unit))->Option R}{r:Option R}(h:M ((),(((a||b)||o),(n,())))=r):
 (if(a||o)=true then M ((),(true,(n,())))else M ((),(b,(n,()))))=r:=by
 cases a <;> cases o <;> simpa using h
set_option maxHeartbeats 4000000 in
theorem P9{g:Grm}(h:WfT y32 g):p5 N0 (g,())=some ((true,()),()):=by
 obtain⟨w,b,e1,e2⟩:=PT h
 have gok:=Qz h
 delta p5 Ld Bd Wi
 simp only
 rw[ae Mm]
 simp only[aE]
 simp only[bx,decide_eq_true_eq,ay,ap,if_false]
 rw[ae e1]
 simp only
 cases b
 ·simp only[aH,if_true]
 have t:=e2 rfl
 have hmx:=t.okB.mx
 have hR:=t.r20
 have hS:=t.gs.ns
 have hP:=t.gs.ps
 simp only[ay,ap,if_false]
 rw[ae (TB t gok hR (by omega) (by omega))]
 simp only
 by_cases ho:0<(Im g w).length
 ·simp only[if_pos ho]
  refine a8 (λj=>((),((gW g w j).any mq,((((gW g w j).length:Nat):Int),((j:Int),()))))) (λ_=>some ((true,()),())) w.1.length (λi hi K hK=>?_) N0 0 (az _) (by unfold N0;omega)
  rcases aj i w.1.length with hil|hil
  ·have c:(i:Int)<(w.1.length:Int):=by omega
   have hK:=hK hil
   have hi1:IntKind.wrap .i64 ((i:Int)+1)=((i+1:Nat):Int):=bJ hil (by omega)
   have hcl:=nL t i hi
   have hrl:=(lG t hil).2
   rw[Cc,lF,ak]at hK
   simp only[c,if_true,hi1]
   rw[ae (Mp t gok hR hil)]
   simp only
   refine a8 (λk=>((),((((fi g w i).2.take k).any mq||(gW g w i).any mq),((k:Int),())))) (λ_=>some ((true,()),())) (fi g w i).2.length (λk hk M hM=>?_) N0 0 (az _) (by unfold N0;omega)
   rcases aj k (fi g w i).2.length with hkl|hkl
   ·have ck:(k:Int)<((fi g w i).2.length:Int):=by omega
    have hM:=hM hkl
    have hk1:IntKind.wrap .i64 ((k:Int)+1)=((k+1:Nat):Int):=bJ hkl (by omega)
    rw[Cb _ _ hkl]at hM
    simp only[ck,if_true,hk1,aB,aa,List.getElem?_eq_getElem hkl]
    exact Ce hM
   ·have ck:¬(k:Int)<((fi g w i).2.length:Int):=by omega
    rw[bK hkl]
    simp only[ck,if_false,show decide ((18:Int)=0)=false from rfl,aH,if_true]
    rw[bp (by omega) (by omega),Bool.or_comm]
    rw[rk]at hK
    exact hK
  ·have c:¬(i:Int)<(w.1.length:Int):=by omega
   have e:i=w.1.length:=by omega
   subst e
   simp only[c,if_false,(Cd g w).1 ho,if_true]
   rfl
 ·simp only[if_neg ho]
  have hno:¬(gW g w w.1.length).any mq=true:=λe=>ho ((Cd g w).2 e)
  refine a8 (λj=>((),((gW g w j).any mq,((((gW g w j).length:Nat):Int),((j:Int),()))))) (λ_=>some ((true,()),())) w.1.length (λi hi K hK=>?_) N0 0 (az _) (by unfold N0;omega)
  rcases aj i w.1.length with hil|hil
  ·have c:(i:Int)<(w.1.length:Int):=by omega
   have hK:=hK hil
   have hi1:IntKind.wrap .i64 ((i:Int)+1)=((i+1:Nat):Int):=bJ hil (by omega)
   have hcl:=nL t i hi
   have hrl:=lG t hil
   rw[Cc,lF,ak]at hK
   simp only[c,if_true,hi1]
   rw[ae (Mp t gok hR hil)]
   simp only
   refine a8 (λk=>((),((((fi g w i).2.take k).any mq||(gW g w i).any mq),((k:Int),())))) (λ_=>some ((true,()),())) (fi g w i).2.length (λk hk M hM=>?_) N0 0 (az _) (by unfold N0;omega)
   rcases aj k (fi g w i).2.length with hkl|hkl
   ·have ck:(k:Int)<((fi g w i).2.length:Int):=by omega
    have hM:=hM hkl
    have hk1:IntKind.wrap .i64 ((k:Int)+1)=((k+1:Nat):Int):=bJ hkl (by omega)
    rw[Cb _ _ hkl]at hM
    simp only[ck,if_true,hk1,aB,aa,List.getElem?_eq_getElem hkl]
    exact Ce hM
   ·have ck:¬(k:Int)<((fi g w i).2.length:Int):=by omega
    rw[bK hkl]
    have hga:(nO g w).1[i]?=some (fi g w i).1:=B6 g w hil
    have hgg:(nO g w).2.1[i]?=some (sF w g.2.1.length i):=by show(qP w g.2.1.length w.1.length)[i]?=_;unfold qP;simp[hil]
    have hla:(nO g w).1.length=w.1.length:=nK g w _
    have hlg:(nO g w).2.1.length=w.1.length:=qR w _ _
    simp only[ck,if_false,decide_true,ay,ap]
    rw[ae (show p20 N0 (nO g w,())=some ((((nO g w).1.length:Int),()),())from rfl)]
    simp only[hla,hlg,decide_true,ay,ap,if_false,aB,if_true,aa,hga,hgg,qQ]
    generalize eR:(fi g w i).1=row at *
    refine a8 (λk=>((),((k:Int),()))) (λ_=>some ((true,()),())) row.length (λk hk M hM=>?_) N0 0 (az _) (by unfold N0;omega)
    rcases aj k row.length with hkl|hkl
    ·have ck:(k:Int)<(row.length:Int):=by omega
     have hM:=hM hkl
     have hk1:IntKind.wrap .i64 ((k:Int)+1)=((k+1:Nat):Int):=bJ hkl (by omega)
     simp only[ck,if_true,hk1,aB,aa,List.getElem?_eq_getElem hkl,decide_true,ay,ap,if_false]
     exact hM
    ·have ck:¬(k:Int)<(row.length:Int):=by omega
     simp only[ck,if_false]
     refine a8 (λk=>((),((k:Int),()))) (λ_=>some ((true,()),())) g.2.1.length (λk hk M hM=>?_) N0 0 (az _) (by unfold N0;omega)
     rcases aj k g.2.1.length with hkl|hkl
     ·have ck:(k:Int)<(g.2.1.length:Int):=by omega
      have hM:=hM hkl
      have hk1:IntKind.wrap .i64 ((k:Int)+1)=((k+1:Nat):Int):=bJ hkl (by omega)
      have hgk:(sF w g.2.1.length i)[k]?=some (goW w (i:Int) (true,(k:Int))):=by unfold sF;simp[hkl]
      simp only[ck,if_true,hk1,aB,aa,hgk]
      rw[ae (Mo t.okB _ _)]
      simp only[decide_true,ay,ap,if_false]
      exact hM
     ·have ck:¬(k:Int)<(g.2.1.length:Int):=by omega
      simp only[ck,if_false]
      rw[bp (by omega) (by omega),Bool.or_comm]
      rw[rk]at hK
      exact hK
  ·have c:¬(i:Int)<(w.1.length:Int):=by omega
   have e:i=w.1.length:=by omega
   subst e
   obtain⟨_,e,he⟩:=DO t.gs _ _ _ _ (zn t.gs) t.bf
   have h0:0<w.1.length:=by rw[he,ak];show 0<1+_;omega
   have hls:(nO g w).2.2.1.length=g.2.2.1.length:=bq _
   have hll:(nO g w).2.2.2.length=g.2.2.1.length:=bq _
   simp only[c,if_false,hno,ap,decide_true,ay,hls,hll]
   rw[ae (Tu (Ms t) (by omega) (by omega)),if_pos (Mr t h0)]
   simp only[decide_true,ay,ap,if_false]
   refine a8 (λk=>((),((k:Int),()))) (λ_=>some ((true,()),())) g.2.2.1.length (λk hk M hM=>?_) N0 0 (az _) (by unfold N0;omega)
   rcases aj k g.2.2.1.length with hkl|hkl
   ·have ck:(k:Int)<(g.2.2.1.length:Int):=by omega
    have hM:=hM hkl
    have hk1:IntKind.wrap .i64 ((k:Int)+1)=((k+1:Nat):Int):=bJ hkl (by omega)
    have g1:(nO g w).2.2.1[k]?=some g.2.2.1[k].1:=by show(g.2.2.1.map _)[k]?=_;rw[List.getElem?_map,List.getElem?_eq_getElem hkl];rfl
    have g2:(nO g w).2.2.2[k]?=some (g.2.2.1[k].2.2.1.length:Int):=by show(g.2.2.1.map _)[k]?=_;rw[List.getElem?_map,List.getElem?_eq_getElem hkl];rfl
    simp only[ck,if_true,hk1,aB,aa,List.getElem?_eq_getElem hkl,g1,g2,decide_true,ay,ap,if_false]
    exact hM
   ·have ck:¬(k:Int)<(g.2.2.1.length:Int):=by omega
    simp only[ck,if_false]
end
end Go.Proofs.YtphipehmbefejaaGreat.Rf.Rk
