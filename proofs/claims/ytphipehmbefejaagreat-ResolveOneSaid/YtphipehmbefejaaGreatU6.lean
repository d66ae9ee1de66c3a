/- A part of a proof that a given statement (the one of this claim: the name of its theorem ends in _holds) is true of the program, with no condition ahead of it. Printed by wip/dev/pack2.py out of the texts in wip. -/
import Derived.Test.YtphipehmbefejaaGreatU5
set_option linter.unusedVariables false
set_option linter.unusedSimpArgs false
namespace Go.Proofs.YtphipehmbefejaaGreat.Rf.Rk
open Go Go.Proofs.YtphipehmbefejaaGreat.Rf
noncomputable section
def pF(o:List ItS)(x:ItS):Bool:=match o[o.length-1]? with
 |none=>true
 |some y=>ltB y x
theorem vu{o:List ItS}(hs:o.Pairwise ltK){x:ItS}:pF o x=true↔∀ y∈o,ltK y x:=by
 unfold pF
 by_cases ho:o=[]
 ·subst ho;simp
 ·have hl:o.length-1<o.length:=by have:=List.length_pos_iff.2 ho;omega
  rw[List.getElem?_eq_getElem hl]
  simp only[kD]
  constructor
  ·intro h y hy
   obtain⟨i,hi,rfl⟩:=fa.1 hy
   by_cases e:i=o.length-1
   ·subst e;exact h
   ·exact pB (nN.1 hs i (o.length-1) hi hl (by omega)) h
  ·intro h;exact h _ (ba hl)
def lsN(l o:List ItS):Nat->Int
 |0=>-1
 |j+1=>match l[j]? with
  |some x=>if(pF o x&&(decide (lsN l o j<0)||(match l[(lsN l o j).toNat]? with
   |some z=>ltB x z
   |none=>false)))=true then(j:Int)else lsN l o j
  |none=>lsN l o j
theorem yY(l o:List ItS):∀ j,-1<=lsN l o j/\lsN l o j<j
 |0=>⟨by show(-1:Int)<=-1;omega,by show(-1:Int)<0;omega⟩
 |j+1=>by
  have ih:=yY l o j
  unfold lsN
  split
  ·split <;> omega
  ·omega
theorem BP(l o:List ItS):∀ j,j<=l.length->(lsN l o j<0->∀ k (h:k<l.length),k<j->pF o l[k]=false)/\
 (0<=lsN l o j->∃ i,∃ h:i<l.length,lsN l o j=(i:Int)/\i<j/\pF o l[i]=true/\∀ k (h':k<l.length),k<j->pF o l[k]=true->¬ltK l[k] l[i])
 |0,_=>⟨λ_ k h hk=>by omega,λh=>by have:=yY l o 0;omega⟩
 |j+1,hj=>by
  obtain⟨ih1,ih2⟩:=BP l o j (by omega)
  have hjl:j<l.length:=by omega
  unfold lsN
  rw[List.getElem?_eq_getElem hjl]
  simp only
  by_cases hc:(pF o l[j]&&(decide (lsN l o j<0)||(match l[(lsN l o j).toNat]? with
   |some z=>ltB l[j] z
   |none=>false)))=true
  ·rw[if_pos hc]
   rw[ag,aG]at hc
   refine⟨λh=>by omega,λ_=>⟨j,hjl,rfl,by omega,hc.1,λk hk hkj hak=>?_⟩⟩
   by_cases e:k=j
   ·subst e;exact λh=>qw h
   ·rcases hc.2 with h|h
    ·have:=ih1 (by simpa using h) k hk (by omega)
     rw[this]at hak;cases hak
    ·by_cases HI:lsN l o j<0
     ·have:=ih1 HI k hk (by omega)
      rw[this]at hak;cases hak
     ·obtain⟨i,hi,e1,e2,e3,e4⟩:=ih2 (by omega)
      rw[e1,aa,List.getElem?_eq_getElem hi]at h
      have h:=kD.1 h
      intro hlt
      exact e4 k hk (by omega) hak (pB hlt h)
  ·rw[if_neg hc]
   constructor
   ·intro HI k hk hkj
    by_cases e:k=j
    ·subst e
     cases ha:pF o l[k]
     ·rfl
     ·exact absurd (by rw[ha];simp[HI]) hc
    ·exact ih1 HI k hk (by omega)
   ·intro hnn
    obtain⟨i,hi,e1,e2,e3,e4⟩:=ih2 hnn
    refine⟨i,hi,e1,by omega,e3,λk hk hkj hak=>?_⟩
    by_cases e:k=j
    ·subst e
     intro hlt
     refine hc ?_
     rw[hak,e1,aa,List.getElem?_eq_getElem hi]
     simp only[kD.2 hlt,fj,Bool.and_self]
    ·exact e4 k hk (by omega) hak
def orN(l:List ItS)(x:ItS):Nat->Int
 |0=>0
 |j+1=>match l[j]? with
  |some z=>if eqB z x=true then orI (orN l x j) z.2.2 else orN l x j
  |none=>orN l x j
theorem Lk(l:List ItS)(x:ItS)(j:Nat):orN l x (j+1)=(match l[j]? with
 |some z=>if eqB z x=true then orI (orN l x j) z.2.2 else orN l x j
 |none=>orN l x j):=rfl
theorem BQ{l:List ItS}(hb:∀ x∈l,jc x)(x:ItS):∀ j,U64 (orN l x j)
 |0=>xo
 |j+1=>by
  unfold orN
  split
  ·rename_i z hz
   split
   ·exact mJ (BQ hb x j) (hb z (List.mem_of_getElem? hz))
   ·exact BQ hb x j
  ·exact BQ hb x j
theorem Fe(l:List ItS)(x:ItS)(b:Nat):∀ j,(orN l x j).toNat.testBit b=true↔∃ k,k<j/\∃ z,l[k]?=some z/\z.1=x.1/\z.2.1=x.2.1/\z.2.2.toNat.testBit b=true
 |0=>by simp[orN]
 |j+1=>by
  have ih:=Fe l x b j
  have key:(∃ k,k<j+1/\∃ z,l[k]?=some z/\z.1=x.1/\z.2.1=x.2.1/\z.2.2.toNat.testBit b=true)↔(∃ k,k<j/\∃ z,l[k]?=some z/\z.1=x.1/\z.2.1=x.2.1/\z.2.2.toNat.testBit b=true)\/(∃ z,l[j]?=some z/\z.1=x.1/\z.2.1=x.2.1/\z.2.2.toNat.testBit b=true):=by
   constructor
   ·rintro⟨k,hk,h⟩
    by_cases e:k=j
    ·subst e;exact .inr h
    ·exact .inl ⟨k,by omega,h⟩
   ·rintro(⟨k,hk,h⟩|h)
    ·exact⟨k,by omega,h⟩
    ·exact⟨j,by omega,h⟩
  rw[key,<-ih,Lk]
  cases hz:l[j]? with
  |none=>simp
  |some z=>
   simp only
   by_cases he:eqB z x=true
   ·rw[if_pos he,dL,aG]
    have:=oN.1 he
    constructor
    ·rintro(h|h)
     ·exact .inl h
     ·exact .inr ⟨z,rfl,this.1,this.2,h⟩
    ·rintro(h|⟨z',e,_,_,h⟩)
     ·exact .inl h
     ·cases e;exact .inr h
   ·rw[if_neg he]
    constructor
    ·exact .inl
    ·rintro(h|⟨z',e,h1,h2,_⟩)
     ·exact h
     ·cases e;exact absurd (oN.2 ⟨h1,h2⟩) he
structure Part(l o:List ItS):Prop where
 st:o.Pairwise ltK
 bd:∀ x∈o,jc x
 le:∀ y∈o,(∃ x∈l,x.1=y.1/\x.2.1=y.2.1)/\∀ b,y.2.2.toNat.testBit b=true↔∃ x∈l,x.1=y.1/\x.2.1=y.2.1/\x.2.2.toNat.testBit b=true
 al:∀ x∈l,(∃ y∈o,y.1=x.1/\y.2.1=x.2.1)\/∀ y∈o,ltK y x
theorem Part.can{l o:List ItS}(h:Part l o)(fu:∀ x∈l,∃ y∈o,y.1=x.1/\y.2.1=x.2.1):Can (At l) o:=by
 refine⟨h.st,h.bd,λp d q=>?_⟩
 cases q with
 |none=>
  constructor
  ·rintro⟨y,hy,rfl,rfl⟩;exact(h.le y hy).1
  ·rintro⟨x,hx,rfl,rfl⟩
   obtain⟨y,hy,e1,e2⟩:=fu x hx
   exact⟨y,hy,e1,e2⟩
 |some b=>
  constructor
  ·rintro⟨y,hy,rfl,rfl,hb⟩;exact((h.le y hy).2 b).1 hb
  ·rintro⟨x,hx,rfl,rfl,hb⟩
   obtain⟨y,hy,e1,e2⟩:=fu x hx
   exact⟨y,hy,e1,e2,((h.le y hy).2 b).2 ⟨x,hx,e1.symm,e2.symm,hb⟩⟩
theorem Dm{o:List ItS}(h:o.Pairwise ltK):o.Nodup:=h.imp λ{a b} hab e=>by subst e;exact qw hab
theorem Part.full{l o:List ItS}(h:Part l o)(hl:l.length<=o.length):∀ x∈l,∃ y∈o,y.1=x.1/\y.2.1=x.2.1:=by
 intro x hx
 rcases h.al x hx with h1|h1
 ·exact h1
 ·exfalso
  have hs:(o++[x]).Pairwise ltK:=gC.2 ⟨h.st,nO _ _,λa ha b hb=>by rw[aL.1 hb];exact h1 a ha⟩
  have:=rP (λ(y:ItS) (c:Nat)=>y∈o++[x]/\∃ z,l[c]?=some z/\z.1=y.1/\z.2.1=y.2.1) (λy y' c hy hy'=>by
   obtain⟨m1,z,e1,e2,e3⟩:=hy
   obtain⟨m2,z',f1,f2,f3⟩:=hy'
   rw[e1]at f1;cases f1
   exact pC hs y m1 y' m2 (by omega) (by omega)) l.length (o++[x]) (Dm hs) (λy hy=>by
   have:∃ z∈l,z.1=y.1/\z.2.1=y.2.1:=by
    rcases au.1 hy with hy|hy
    ·exact(h.le y hy).1
    ·rw[aL.1 hy];exact⟨x,hx,rfl,rfl⟩
   obtain⟨z,hz,e1,e2⟩:=this
   obtain⟨c,hc,rfl⟩:=fa.1 hz
   exact⟨c,hc,hy,_,List.getElem?_eq_getElem hc,e1,e2⟩)
  rw[aj]at this
  simp at this
  omega
theorem Part.more{l o:List ItS}(h:Part l o)(hb:∀ x∈l,jc x){i:Nat}(hi:i<l.length)(ha:pF o l[i]=true)(Sa:∀ k (h':k<l.length),pF o l[k]=true->¬ltK l[k] l[i]):
 Part l (o++[(l[i].1,(l[i].2.1,orN l l[i] l.length))]):=by
 have hab:=(vu h.st).1 ha
 refine⟨gC.2 ⟨h.st,nO _ _,λa ha' b hb'=>by rw[aL.1 hb'];exact hab a ha'⟩,λy hy=>?_,λy hy=>?_,λx hx=>?_⟩
 ·rcases au.1 hy with hy|hy
  ·exact h.bd y hy
  ·rw[aL.1 hy];exact BQ hb _ _
 ·rcases au.1 hy with hy|hy
  ·exact h.le y hy
  ·rw[aL.1 hy]
   refine⟨⟨_,ba hi,rfl,rfl⟩,λb=>?_⟩
   show(orN l l[i] l.length).toNat.testBit b=true↔_
   rw[Fe]
   constructor
   ·rintro⟨k,_,z,hz,e⟩;exact⟨z,List.mem_of_getElem? hz,e⟩
   ·rintro⟨z,hz,e⟩
    obtain⟨k,hk,rfl⟩:=fa.1 hz
    exact⟨k,hk,_,List.getElem?_eq_getElem hk,e⟩
 ·rcases h.al x hx with⟨y,hy,e⟩|h1
  ·exact .inl ⟨y,au.2 (.inl hy),e⟩
  ·obtain⟨k,hk,rfl⟩:=fa.1 hx
   have hk':=Sa k hk ((vu h.st).2 h1)
   rcases KS l[i] l[k]with e|e|e
   ·refine .inr λy hy=>?_
    rcases au.1 hy with hy|hy
    ·exact h1 y hy
    ·rw[aL.1 hy];exact e
   ·exact .inl ⟨_,au.2 (.inr (aL.2 rfl)),e⟩
   ·exact absurd e hk'
set_option maxHeartbeats 2000000 in
theorem yZ{l:List ItS}(hb:∀ x∈l,jc x)(hl:l.length<=1000000):Hk N0 (l,())=some ((fy l,()),()):=by
 delta Hk Ld Ap Bd Wi
 simp only[aH,bM,decide_eq_true_eq]
 have Lj:=jg hb
 refine aZ (λm z r=>∃ (o:List ItS),z=((),(o,(((o.length:Nat):Int),())))/\Part l o/\o.length<=l.length/\m=l.length-o.length/\r=some ((fy l,()),())) ?_ N0 l.length _ _ (by unfold N0;omega) ⟨[],rfl,⟨.nil,(λx h=>by cases h),(λx h=>by cases h),λx hx=>.inr λy hy=>by cases hy⟩,aC _,rfl,rfl⟩
 rintro m z r ⟨o,rfl,hp,hol,rfl,rfl⟩ K hK
 rcases ak o.length l.length with h|h
 case inr=>
  have c:¬(o.length:Int)<(l.length:Int):=by omega
  simp only[c,if_false]
  rw[(hp.can (hp.full h)).BE Lj]
 have c:(o.length:Int)<(l.length:Int):=by omega
 have ho1:IntKind.wrap .i64 ((o.length:Int)+1)=((o.length+1:Nat):Int):=bS h (by omega)
 simp only[c,if_true,ho1]
 refine bE (λj=>((o,()),(lsN l o j,((j:Int),())))) (λ_=>some ((fy l,()),())) l.length (λj hj L hL=>?_) N0 0 (aC _) (by unfold N0;omega)
 rcases ak j l.length with hjl|hjl
 ·have cj:(j:Int)<(l.length:Int):=by omega
  have hL:=hL hjl
  have hj1:IntKind.wrap .i64 ((j:Int)+1)=((j+1:Nat):Int):=bS hjl (by omega)
  have hr:=yY l o j
  simp only[cj,if_true,aJ,aa,List.getElem?_eq_getElem hjl,hj1]
  unfold lsN at hL
  rw[List.getElem?_eq_getElem hjl]at hL
  simp only at hL
  generalize l[j]=x at *
  rw[<-hL]
  clear hL hK
  -- is it XS
  have ab:∀ (T1 T2:Option ((List ItS×Unit)×Unit)),(if((o.length:Nat):Int)=0 then T1 else if 0<=IntKind.wrap .i64 ((o.length:Int)-1)then(match o[(IntKind.wrap .i64 ((o.length:Int)-1)).toNat]? with
   |some y=>if y.1<x.1 then T1 else if 0<=IntKind.wrap .i64 ((o.length:Int)-1)then(match o[(IntKind.wrap .i64 ((o.length:Int)-1)).toNat]? with
    |some y=>if x.1=y.1 then(if 0<=IntKind.wrap .i64 ((o.length:Int)-1)then(match o[(IntKind.wrap .i64 ((o.length:Int)-1)).toNat]? with
     |some y=>if y.2.1<x.2.1 then T1 else T2
     |none=>none)else none)else T2
    |none=>none)else none
   |none=>none)else none)=if pF o x=true then T1 else T2:=λT1 T2=>by
   by_cases ho:o.length=0
   ·have:o=[]:=kM.1 ho
    subst this
    simp[pF]
   ·have hw:IntKind.wrap .i64 ((o.length:Int)-1)=((o.length-1:Nat):Int):=by rw[bz (by omega) (by omega)];omega
    have XT:o.length-1<o.length:=by omega
    unfold pF
    have hz:¬((o.length:Nat):Int)=0:=by omega
    simp only[hz,if_false,hw,aJ,aa,if_true,List.getElem?_eq_getElem XT]
    generalize o[o.length-1]=y
    unfold ltB
    by_cases h1:y.1<x.1
    ·simp[h1]
    ·by_cases h2:x.1=y.1
     ·by_cases h3:y.2.1<x.2.1
      ·simp[h2,h3]
      ·simp[h2,h3]
     ·have h2':¬y.1=x.1:=λe=>h2 e.symm
      simp[h1,h2,h2']
  by_cases hn:lsN l o j<0
  ·simp only[hn,if_true,ap,if_false]
   refine(ab _ _).trans ?_
   cases pF o x <;> simp
  ·have hnn:0<=lsN l o j:=by omega
   have hil:(lsN l o j).toNat<l.length:=by omega
   rw[List.getElem?_eq_getElem hil]
   generalize l[(lsN l o j).toNat]=w
   simp only[hn,if_true,ap,if_false,hnn,decide_false,cV]
   refine(ab _ _).trans ?_
   unfold ltB
   cases pF o x
   ·simp
   ·by_cases h1:x.1<w.1
    ·simp[h1]
    ·by_cases h2:x.1=w.1
     ·by_cases h3:x.2.1<w.2.1
      ·simp[h2,h3]
      ·simp[h2,h3]
     ·simp[h1,h2]
 ·have cj:¬(j:Int)<(l.length:Int):=by omega
  have hje:j=l.length:=by omega
  subst hje
  simp only[cj,if_false]
  obtain⟨s1,s2⟩:=BP l o l.length (ar _)
  by_cases hn:lsN l o l.length<0
  ·rw[if_pos hn]
   have fu:∀ x∈l,∃ y∈o,y.1=x.1/\y.2.1=x.2.1:=λx hx=>by
    rcases hp.al x hx with h1|h1
    ·exact h1
    ·obtain⟨k,hk,rfl⟩:=fa.1 hx
     have:=s1 hn k hk hk
     rw[(vu hp.st).2 h1]at this;cases this
   rw[(hp.can fu).BE Lj]
  ·obtain⟨i,hi,e1,_,e3,e4⟩:=s2 (by omega)
   have hpm:=hp.more hb hi e3 (λk hk=>e4 k hk hk)
   simp only[e1,show ¬(i:Int)<0 by omega,if_false,aJ,aa,if_true,List.getElem?_eq_getElem hi]
   refine bE (λj=>((o,((l[i].1,(l[i].2.1,orN l l[i] j)),())),((j:Int),()))) (λ_=>some ((fy l,()),())) l.length (λj hj M hM=>?_) N0 0 (aC _) (by unfold N0;omega)
   rcases ak j l.length with hjl|hjl
   ·have cj:(j:Int)<(l.length:Int):=by omega
    have hM:=hM hjl
    have hj1:IntKind.wrap .i64 ((j:Int)+1)=((j+1:Nat):Int):=bS hjl (by omega)
    have hw:=hb _ (ba hjl)
    simp only[cj,if_true,aJ,aa,List.getElem?_eq_getElem hjl,hj1]
    unfold orN at hM
    rw[List.getElem?_eq_getElem hjl]at hM
    simp only at hM
    rw[<-hM]
    unfold eqB
    by_cases h1:l[j].1=l[i].1
    ·by_cases h2:l[j].2.1=l[i].2.1
     ·simp[h1,h2,tH (BQ hb l[i] j) hw]
     ·simp[h1,h2]
    ·simp[h1]
   ·have cj:¬(j:Int)<(l.length:Int):=by omega
    have hje:j=l.length:=by omega
    subst hje
    simp only[cj,if_false,aM,bD]
    rw[if_pos (by omega),if_pos (by omega)]
    refine hK (l.length-(o.length+1)) _ _ (by omega) ⟨o++[(l[i].1,(l[i].2.1,orN l l[i] l.length))],?_,hpm,by simp;omega,by simp,rfl⟩
    simp
end
noncomputable section
def dz(g:GrS)(q:Int):List SyS×Bool:=
 if 0<=q/\q<(g.2.2.1.length:Int)then(match g.2.2.1[q.toNat]? with
  |some p=>(p.2.2.1,true)
  |none=>([],true))else if q=(g.2.2.1.length:Int)then([(true,g.2.2.2.2)],true)else([],false)
theorem y0(g:GrS)(q:Int):Hg N0 (g,(q,()))=some (((dz g q).1,((dz g q).2,())),()):=by
 delta Hg Ld Bd;unfold dz
 simp only[aH,bM,decide_eq_true_eq]
 by_cases h1:0<=q
 ·by_cases h2:q<(g.2.2.1.length:Int)
  ·have hl:q.toNat<g.2.2.1.length:=by omega
   simp[h1,h2,List.getElem?_eq_getElem hl]
  ·by_cases h3:q=(g.2.2.1.length:Int)
   ·simp[h3]
   ·simp[h1,h2,h3]
 ·by_cases h3:q=(g.2.2.1.length:Int)
  ·omega
  ·simp[h1,h3]
theorem Ll(g:GrS)(q:Int):p53 N0 (g,(q,()))=some (((dz g q).1,((dz g q).2,())),()):=by
 delta p53 Ld Bd;unfold dz
 simp only[aH,bM,decide_eq_true_eq]
 by_cases h1:0<=q
 ·have h1':¬q<0:=by omega
  by_cases h2:q<(g.2.2.1.length:Int)
  ·have hl:q.toNat<g.2.2.1.length:=by omega
   have h3:¬(g.2.2.1.length:Int)<q:=by omega
   have h4:¬q=(g.2.2.1.length:Int):=by omega
   simp[h1,h1',h2,h3,h4,List.getElem?_eq_getElem hl]
  ·by_cases h3:q=(g.2.2.1.length:Int)
   ·simp[h3]
   ·have h4:(g.2.2.1.length:Int)<q:=by omega
    simp[h1,h1',h2,h3,h4]
 ·have h1':q<0:=by omega
  by_cases h3:q=(g.2.2.1.length:Int)
  ·omega
  ·simp[h1,h1',h3]
theorem oO{g:GrS}(hg:Gs g)(q:Int):(dz g q).1.length<=20:=by
 unfold dz
 split
 ·split
  ·rename_i p hp;exact hg.pb p (List.mem_of_getElem? hp)
  ·simp
 ·split <;> simp
theorem BR{g:GrS}(hg:Gs g)(q:Int):HF (dz g q).1:=by
 unfold dz
 split
 ·split
  ·rename_i p hp;exact hg.py p (List.mem_of_getElem? hp)
  ·intro y hy;cases hy
 ·split
  ·intro y hy
   rw[aL.1 hy];exact hg.st
  ·intro y hy;cases hy
theorem vz{g:GrS}{q:Int}(h:(dz g q).1≠[]):0<=q/\q<=(g.2.2.1.length:Int):=by
 unfold dz at h
 split at h
 ·omega
 ·split at h
  ·omega
  ·exact absurd rfl h
def fV(g:GrS)(q d:Int):Option SyS:=if d<0 then none else(dz g q).1[d.toNat]?
theorem vA{g:GrS}{q d:Int}{y:SyS}(h:fV g q d=some y):0<=d/\d.toNat<(dz g q).1.length:=by
 unfold fV at h
 split at h
 ·cases h
 ·exact⟨by omega,(List.getElem?_eq_some_iff.1 h).1⟩
theorem Sb{g:GrS}(hg:Gs g){q d:Int}{y:SyS}(h:fV g q d=some y):0<=q/\q<=12/\0<=d/\d<=19:=by
 have h1:=vA h
 have h2:=oO hg q
 have h3:=vz (g:=g) (q:=q) (λe=>by rw[e]at h1;simp at h1)
 have h4:=hg.ps
 omega
theorem Dn(g:GrS)(x:ItS):p95 N0 (g,(x,()))=some ((match fV g x.1 x.2.1 with
 |some y=>(y,(true,()))
 |none=>((false,0),(false,()))),()):=by
 delta p95 Ld Bd;unfold fV
 simp only[aH,bM,decide_eq_true_eq,y0,aB]
 by_cases h1:x.2.1<0
 ·simp[h1]
 ·cases hb:(dz g x.1).2
  ·have:(dz g x.1).1=[]:=by
    unfold dz at hb |-
    split at hb
    ·split at hb <;> cases hb
    ·split at hb
     ·cases hb
     ·rename_i h2 h3;rw[if_neg h2,if_neg h3]
   simp[h1,this]
  ·by_cases h2:((dz g x.1).1.length:Int)<=x.2.1
   ·have:(dz g x.1).1.length<=x.2.1.toNat:=by omega
    simp[h1,h2,List.getElem?_eq_none this]
   ·have hl:x.2.1.toNat<(dz g x.1).1.length:=by omega
    have h0:0<=x.2.1:=by omega
    simp[h1,h2,h0,List.getElem?_eq_getElem hl]
theorem za(g:GrS)(x:ItS):Hl N0 (g,(x,()))=some ((match fV g x.1 x.2.1 with
 |some y=>(y,(true,()))
 |none=>((false,0),(false,()))),()):=by
 delta Hl Ld Bd;unfold fV
 simp only[aH,bM,decide_eq_true_eq,Ll,aB]
 by_cases h1:x.2.1<0
 ·simp[h1]
 ·by_cases h2:((dz g x.1).1.length:Int)<=x.2.1
  ·have:(dz g x.1).1.length<=x.2.1.toNat:=by omega
   simp[h1,h2,List.getElem?_eq_none this]
  ·have hl:x.2.1.toNat<(dz g x.1).1.length:=by omega
   have h0:0<=x.2.1:=by omega
   simp[h1,h2,h0,List.getElem?_eq_getElem hl]
def qC(g:GrS)(q d:Int):List SyS:=(dz g q).1.drop (d.toNat+1)
theorem vB{α:Type}(b:List α)(n:Nat):cC b (n:Int) (b.length:Int)=b.drop n:=by
 unfold cC
 rw[aa,aa,bP (by rw[bB];exact ar _)]
theorem Sc{g:GrS}(hg:Gs g){x:ItS}{y:SyS}(h:fV g x.1 x.2.1=some y):p98 N0 (g,(x,()))=some ((qC g x.1 x.2.1,()),()):=by
 obtain⟨h1,h2⟩:=vA h
 have h3:=oO hg x.1
 delta p98 Bd Wi;unfold qC
 simp only[aH,bM,decide_eq_true_eq,y0,aB]
 have h1':¬x.2.1<0:=by omega
 have hw:IntKind.wrap .i64 (((dz g x.1).1.length:Int)-1)=((dz g x.1).1.length:Int)-1:=bz (by omega) (by omega)
 have hw2:IntKind.wrap .i64 (x.2.1+1)=((x.2.1.toNat+1:Nat):Int):=by rw[bz (by omega) (by omega)];omega
 simp only[h1',if_false,hw,hw2]
 by_cases xk:((dz g x.1).1.length:Int)-1<=x.2.1
 ·have:(dz g x.1).1.drop (x.2.1.toNat+1)=[]:=eo (by omega)
  simp[xk,this]
 ·rw[if_neg (by simpa using xk),if_pos ⟨by omega,by omega,by omega⟩,vB]
def stG(g:GrS)(p d q:Int):Prop:=∃ (k:Nat) (pr:PrS),q=(k:Int)/\g.2.2.1[k]?=some pr/\fV g p d=some (true,pr.1)
def fsG(g:GrS)(p d:Int)(b:Nat):Prop:=Beg g.2.1.length (tE g.2.2.1 g.2.1.length) (tF g.2.2.1 g.2.1.length) (qC g p d) b
def nlG(g:GrS)(p d:Int):Prop:=emR g.2.1.length (tE g.2.2.1 g.2.1.length) (qC g p d)=true
def wG(g:GrS)(p d look:Int):Int:=yR g.2.1.length (tE g.2.2.1 g.2.1.length) (tF g.2.2.1 g.2.1.length) (qC g p d) look
theorem Pj{g:GrS}{p d look:Int}(h:U64 look):U64 (wG g p d look):=R5 (λi=>K7 i) h
theorem sf{g:GrS}{p d look:Int}{b:Nat}:(wG g p d look).toNat.testBit b=true↔fsG g p d b\/nlG g p d/\look.toNat.testBit b=true:=KY
def ClG(g:GrS)(l:List ItS):Ato:=Cl (stG g) (fsG g) (nlG g) (At l)
theorem Lm{g:GrS}{p d:Int}{b:Nat}(h:fsG g p d b):b<64:=by
 obtain⟨pre,y,post,_,_,h|h⟩:=h
 ·omega
 ·exact PV (K7 _) h.2.2
theorem Dp{g:GrS}(hg:Gs g){p d q:Int}(h:stG g p d q):0<=q/\q<=12:=by
 obtain⟨k,pr,rfl,h1,_⟩:=h
 have:=(List.getElem?_eq_some_iff.1 h1).1
 have:=hg.ps
 omega
structure OkI(l:List ItS):Prop where
 bd:∀ x∈l,jc x
 rg:∀ x∈l,0<=x.1/\x.1<=12/\0<=x.2.1/\x.2.1<=20
theorem OkI.inU{l:List ItS}(h:OkI l){p d:Int}{o:Option Nat}(ha:At l p d o):InU 12 p d o:=by
 cases o with
 |none=>
  obtain⟨x,hx,rfl,rfl⟩:=ha
  have:=h.rg x hx
  exact⟨this.1,this.2.1,this.2.2.1,this.2.2.2,λb e=>by cases e⟩
 |some b=>
  obtain⟨x,hx,rfl,rfl,hb⟩:=ha
  have:=h.rg x hx
  exact⟨this.1,this.2.1,this.2.2.1,this.2.2.2,λb' e=>by cases e;exact PV (h.bd x hx) hb⟩
theorem ClG.inU{g:GrS}(hg:Gs g){l:List ItS}(h:OkI l){p d:Int}{o:Option Nat}(ha:ClG g l p d o):InU 12 p d o:=by
 unfold ClG at ha
 cases ha with
 |base h1=>exact h.inU h1
 |there h1 h2=>
  have:=Dp hg h2
  exact⟨this.1,this.2,iA _,by omega,λb e=>by cases e⟩
 |first h1 h2 h3=>
  have:=Dp hg h2
  exact⟨this.1,this.2,iA _,by omega,λb e=>by cases e;exact Lm h3⟩
 |look h1 h2 h3=>
  have:=Dp hg h2
  have key:∀ {p d:Int} {o:Option Nat},Cl (stG g) (fsG g) (nlG g) (At l) p d o->∀ b,o=some b->b<64:=by
   intro p d o hc
   induction hc with
   |base h1=>exact(h.inU h1).b
   |there _ _ _=>intro b e;cases e
   |first _ _ h3 _=>intro b e;cases e;exact Lm h3
   |look _ _ _ ih=>intro b e;cases e;exact ih _ rfl
  exact⟨this.1,this.2,iA _,by omega,λb e=>by cases e;exact key h1 _ rfl⟩
theorem ClG.Sd{g:GrS}{l:List ItS}{p d:Int}{o:Option Nat}(ha:ClG g l p d o):ClG g l p d none:=by
 unfold ClG at *
 induction ha with
 |base h1=>exact .base h1.there
 |there h1 h2 _=>exact .there h1 h2
 |first h1 h2 _ _=>exact .there h1 h2
 |look _ h2 _ ih=>exact .there ih h2
def Ln(A:Ato):List ItS:=by
 classical exact(List.range 13).flatMap λ(p:Nat)=>(List.range 21).flatMap λ(d:Nat)=>if A p d none then [((p:Int),((d:Int),((kl (λb=>decide (A p d (some b))) 64:Nat):Int)))]else []
theorem hY{A:Ato}{x:ItS}:x∈Ln A↔∃ p d:Nat,p<13/\d<21/\A p d none/\x.1=(p:Int)/\x.2.1=(d:Int)/\U64 x.2.2/\∀ b,x.2.2.toNat.testBit b=true↔b<64/\A p d (some b):=by
 classical
 unfold Ln
 simp only[dD,cz]
 constructor
 ·rintro⟨p,hp,d,hd,hx⟩
  split at hx
  ·rename_i ha
   rw[aL.1 hx]
   refine⟨p,d,hp,hd,ha,rfl,rfl,pE _,λb=>?_⟩
   show(Int.toNat ((kl _ 64:Nat):Int)).testBit b=true↔_
   rw[aa,jf]
   simp
  ·cases hx
 ·rintro⟨p,d,hp,hd,ha,e1,e2,hU,hb⟩
  refine⟨p,hp,d,hd,?_⟩
  rw[if_pos ha]
  refine aL.2 ?_
  obtain⟨x1,x2,x3⟩:=x
  simp only at e1 e2 hU hb
  rw[e1,e2]
  congr 2
  refine BF hU (pE _) λb Yj=>?_
  rw[aa,jf,bZ,hb]
  simp
theorem Lo{A:Ato}(h1:∀ p d o,A p d o->InU 12 p d o)(h2:∀ p d o,A p d o->A p d none):Can A (Ln A):=by
 refine⟨?_,λx hx=>?_,λp d o=>?_⟩
 ·have hr:∀ n,(List.range n).Pairwise (λa b=>a<b):=λn=>List.pairwise_lt_range
  classical
  unfold Ln
  refine List.pairwise_flatMap.2 ⟨λp _=>List.pairwise_flatMap.2 ⟨λd _=>?_,?_⟩,?_⟩
  ·split
   ·exact nO _ _
   ·exact .nil
  ·refine List.Pairwise.imp ?_ (hr 21)
   intro a b hab x hx y hy
   split at hx
   ·split at hy
    ·rw[aL.1 hx,aL.1 hy]
     exact .inr ⟨rfl,by show(a:Int)<(b:Int);omega⟩
    ·cases hy
   ·cases hx
  ·refine List.Pairwise.imp ?_ (hr 13)
   intro a b hab x hx y hy
   obtain⟨d,_,hx⟩:=dD.1 hx
   obtain⟨d',_,hy⟩:=dD.1 hy
   split at hx
   ·split at hy
    ·rw[aL.1 hx,aL.1 hy]
     exact .inl (by show(a:Int)<(b:Int);omega)
    ·cases hy
   ·cases hx
 ·obtain⟨p,d,_,_,_,_,_,h,_⟩:=hY.1 hx
  exact h
 ·cases o with
  |none=>
   constructor
   ·rintro⟨x,hx,rfl,rfl⟩
    obtain⟨p,d,_,_,ha,e1,e2,_⟩:=hY.1 hx
    rw[e1,e2];exact ha
   ·intro ha
    have hu:=h1 _ _ _ ha
    have u1:=hu.p0
    have u2:=hu.p1
    have u3:=hu.d0
    have u4:=hu.d1
    obtain⟨P,rfl⟩:∃ P:Nat,p=(P:Int):=⟨p.toNat,by omega⟩
    obtain⟨D,rfl⟩:∃ D:Nat,d=(D:Int):=⟨d.toNat,by omega⟩
    classical
    refine⟨((P:Int),((D:Int),((kl (λb=>decide (A P D (some b))) 64:Nat):Int))),hY.2 ⟨P,D,by omega,by omega,ha,rfl,rfl,pE _,λb=>?_⟩,rfl,rfl⟩
    show(Int.toNat ((kl _ 64:Nat):Int)).testBit b=true↔_
    rw[aa,jf]
    simp
  |some b=>
   constructor
   ·rintro⟨x,hx,rfl,rfl,hb⟩
    obtain⟨p,d,_,_,ha,e1,e2,_,BS⟩:=hY.1 hx
    rw[e1,e2];exact((BS b).1 hb).2
   ·intro ha
    have hu:=h1 _ _ _ ha
    have u1:=hu.p0
    have u2:=hu.p1
    have u3:=hu.d0
    have u4:=hu.d1
    have u5:=hu.b b rfl
    obtain⟨P,rfl⟩:∃ P:Nat,p=(P:Int):=⟨p.toNat,by omega⟩
    obtain⟨D,rfl⟩:∃ D:Nat,d=(D:Int):=⟨d.toNat,by omega⟩
    classical
    have BS:∀ b,(Int.toNat ((kl (λb=>decide (A P D (some b))) 64:Nat):Int)).testBit b=true↔b<64/\A P D (some b):=λb=>by
     rw[aa,jf]
     simp
    exact⟨((P:Int),((D:Int),((kl (λb=>decide (A P D (some b))) 64:Nat):Int))),hY.2 ⟨P,D,by omega,by omega,h2 _ _ _ ha,rfl,rfl,pE _,BS⟩,rfl,rfl,(BS b).2 ⟨u5,ha⟩⟩
def eP(g:GrS)(l:List ItS):List ItS:=Ln (ClG g l)
theorem fI{g:GrS}(hg:Gs g){l:List ItS}(h:OkI l):Can (ClG g l) (eP g l):=Lo (λ_ _ _ ha=>ClG.inU hg h ha) (λ_ _ _ ha=>ha.Sd)
theorem Lp{A:Ato}{l:List ItS}(h:Can A l)(hU:∀ p d o,A p d o->InU 12 p d o):OkI l:=
 ⟨h.bd,λx hx=>by
  have:=hU _ _ _ ((h.at' x.1 x.2.1 none).1 ⟨x,hx,rfl,rfl⟩)
  exact⟨this.p0,this.p1,this.d0,this.d1⟩⟩
theorem sg{g:GrS}(hg:Gs g){l:List ItS}(h:OkI l):OkI (eP g l):=Lp (fI hg h) λ_ _ _ ha=>ClG.inU hg h ha
theorem lK{A:Ato}{l:List ItS}(h:Can A l)(hU:∀ p d o,A p d o->InU 12 p d o):l.length<=273:=by
 have:=O6 h hU
 omega
end
noncomputable section
theorem Lr{a b:List ItS}(hl:a.length<=1000000):p89 N0 (a,(b,()))=some ((decide (a=b),()),()):=by
 delta p89 Ld Bd Wi
 simp only[aH,bM,decide_eq_true_eq]
 by_cases hlen:(a.length:Int)=(b.length:Int)
 ·have X7:a.length=b.length:=by omega
  simp only[hlen,decide_true,aA,ap,if_false]
  rw[<-hlen]
  refine bE (λj=>((),((j:Int),()))) (λj=>some ((decide (a.drop j=b.drop j),()),())) a.length (λj hj K hK=>?_) N0 0 (aC _) (by unfold N0;omega)
  rcases ak j a.length with h|h
  ·have c:(j:Int)<(a.length:Int):=by omega
   have hK:=hK h
   have hb:j<b.length:=by omega
   have hj1:IntKind.wrap .i64 ((j:Int)+1)=((j+1:Nat):Int):=bS h hl
   simp only[c,if_true,aJ,aa,List.getElem?_eq_getElem h,List.getElem?_eq_getElem hb,hj1,cL h,cL hb]
   rw[hK]
   generalize a[j]=x
   generalize b[j]=y
   obtain⟨x1,x2,x3⟩:=x
   obtain⟨y1,y2,y3⟩:=y
   by_cases h1:x1=y1
   ·by_cases h2:x2=y2
    ·by_cases h3:x3=y3
     ·simp[h1,h2,h3]
     ·simp[h1,h2,h3]
    ·simp[h1,h2]
   ·simp[h1]
  ·have c:¬(j:Int)<(a.length:Int):=by omega
   rw[eo h,eo (by omega)]
   simp only[c,if_false,decide_true]
 ·have:¬a=b:=λe=>hlen (by rw[e])
  simp[hlen,this]
def mK(g:GrS)(s w:Int)(j:Nat):List ItS:=(List.range j).flatMap λk=>match g.2.2.1[k]? with
 |some pr=>if pr.1=s then [((k:Int),((0:Int),w))]else []
 |none=>[]
def Dq(g:GrS)(x:ItS):List ItS:=match fV g x.1 x.2.1 with
 |some y=>if y.1=true then mK g y.2 (wG g x.1 x.2.1 x.2.2) g.2.2.1.length else []
 |none=>[]
def km(g:GrS)(c:List ItS):List ItS:=c.flatMap (Dq g)
theorem vC(g:GrS)(s w:Int)(j:Nat):mK g s w (j+1)=mK g s w j++(match g.2.2.1[j]? with
 |some pr=>if pr.1=s then [((j:Int),((0:Int),w))]else []
 |none=>[]):=by
 unfold mK
 rw[gG,gD]
 simp only[jD,q8,b9]
theorem si(g:GrS)(s w:Int):∀ j,(mK g s w j).length<=j
 |0=>by simp[mK]
 |j+1=>by
  have:=si g s w j
  rw[vC,aj]
  split
  ·split
   ·simp;omega
   ·simp;omega
  ·simp;omega
def BT{α:Type}(l m:List α):List α:=match m with
 |[]=>l
 |x::m=>l++x::m
theorem oP{α:Type}(l m:List α):BT l m=l++m:=by
 cases m
 ·exact(b9 l).symm
 ·rfl
theorem HJ{g:GrS}{s w:Int}{j:Nat}{y:ItS}:y∈mK g s w j↔∃ k pr,k<j/\g.2.2.1[k]?=some pr/\pr.1=s/\y=((k:Int),((0:Int),w)):=by
 unfold mK
 simp only[dD,cz]
 constructor
 ·rintro⟨k,hk,hy⟩
  cases hp:g.2.2.1[k]? with
  |none=>rw[hp]at hy;cases hy
  |some pr=>
   rw[hp]at hy
   simp only at hy
   split at hy
   ·rename_i e;exact⟨k,pr,hk,hp,e,aL.1 hy⟩
   ·cases hy
 ·rintro⟨k,pr,hk,hp,e,rfl⟩
  refine⟨k,hk,?_⟩
  rw[hp]
  simp[e]
theorem vD{g:GrS}{x y:ItS}:y∈Dq g x↔∃ q,stG g x.1 x.2.1 q/\y=(q,((0:Int),wG g x.1 x.2.1 x.2.2)):=by
 unfold Dq stG
 cases hn:fV g x.1 x.2.1 with
 |none=>
  constructor
  ·intro h;cases h
  ·rintro⟨q,⟨k,pr,_,_,h⟩,_⟩;cases h
 |some z=>
  simp only
  by_cases hz:z.1=true
  ·rw[if_pos hz,HJ]
   constructor
   ·rintro⟨k,pr,_,h1,h2,h3⟩
    refine⟨(k:Int),⟨k,pr,rfl,h1,?_⟩,h3⟩
    obtain⟨z1,z2⟩:=z
    simp only at hz h2
    rw[hz,h2]
   ·rintro⟨q,⟨k,pr,rfl,h1,h2⟩,h3⟩
    refine⟨k,pr,(List.getElem?_eq_some_iff.1 h1).1,h1,?_,h3⟩
    cases h2;rfl
  ·rw[if_neg hz]
   constructor
   ·intro h;cases h
   ·rintro⟨q,⟨k,pr,_,_,h⟩,_⟩
    cases h
    exact absurd rfl hz
theorem Ls(g:GrS)(x:ItS):(Dq g x).length<=g.2.2.1.length:=by
 unfold Dq
 split
 ·split
  ·exact si _ _ _ _
  ·simp
 ·simp
theorem vE{g:GrS}(hg:Gs g):∀ c:List ItS,(km g c).length<=c.length*12
 |[]=>by simp[km]
 |x::c=>by
  have h1:=vE hg c
  have h2:=Ls g x
  have h3:=hg.ps
  unfold km at *
  rw[jD,aj,aM]
  omega
theorem Pk{g:GrS}{c:List ItS}{p d:Int}{o:Option Nat}:At (km g c) p d o↔Stp (stG g) (fsG g) (nlG g) (At c) p d o:=by
 have hm:∀ y,y∈km g c↔∃ x∈c,∃ q,stG g x.1 x.2.1 q/\y=(q,((0:Int),wG g x.1 x.2.1 x.2.2)):=λy=>by
  unfold km
  rw[dD]
  constructor
  ·rintro⟨x,hx,h⟩;exact⟨x,hx,vD.1 h⟩
  ·rintro⟨x,hx,h⟩;exact⟨x,hx,vD.2 h⟩
 cases o with
 |none=>
  constructor
  ·rintro⟨y,hy,rfl,rfl⟩
   obtain⟨x,hx,q,h1,rfl⟩:=(hm y).1 hy
   exact⟨rfl,x.1,x.2.1,⟨x,hx,rfl,rfl⟩,h1⟩
  ·rintro⟨rfl,p',d',⟨x,hx,rfl,rfl⟩,h1⟩
   exact⟨_,(hm _).2 ⟨x,hx,p,h1,rfl⟩,rfl,rfl⟩
 |some b=>
  constructor
  ·rintro⟨y,hy,rfl,rfl,hb⟩
   obtain⟨x,hx,q,h1,rfl⟩:=(hm y).1 hy
   refine⟨rfl,x.1,x.2.1,h1,?_⟩
   rcases sf.1 hb with h|h
   ·exact .inl ⟨⟨x,hx,rfl,rfl⟩,h⟩
   ·exact .inr ⟨⟨x,hx,rfl,rfl,h.2⟩,h.1⟩
  ·rintro⟨rfl,p',d',h1,h|h⟩
   ·obtain⟨⟨x,hx,rfl,rfl⟩,hf⟩:=h
    exact⟨_,(hm _).2 ⟨x,hx,p,h1,rfl⟩,rfl,rfl,sf.2 (.inl hf)⟩
   ·obtain⟨⟨x,hx,rfl,rfl,hb⟩,hn⟩:=h
    exact⟨_,(hm _).2 ⟨x,hx,p,h1,rfl⟩,rfl,rfl,sf.2 (.inr ⟨hn,hb⟩)⟩
theorem Pl{g:GrS}{c:List ItS}(h:∀ x∈c,jc x):∀ y∈km g c,jc y:=λy hy=>by
 unfold km at hy
 obtain⟨x,hx,hy⟩:=dD.1 hy
 obtain⟨q,_,rfl⟩:=vD.1 hy
 exact Pj (h x hx)
set_option maxHeartbeats 2000000 in
theorem Lt{g:GrS}(hg:Gs g){l:List ItS}(hl:OkI l)(hll:l.length<=100000):p85 N0 (g,(l,()))=some ((eP g l,()),()):=by
 have hps:=hg.ps
 delta p85 Ld Ap Bd Wi
 simp only[E3 hg,Pe hg,aB,yZ hl.bd (by omega:l.length<=1000000)]
 simp only[aH,bM,decide_eq_true_eq]
 have Ff:=jg hl.bd
 have Dr:=fI hg hl
 have Se:∀ p d o,ClG g l p d o->InU 12 p d o:=λ_ _ _ ha=>ClG.inU hg hl ha
 refine aZ (λm z r=>∃ (c:List ItS),z=((),(c,()))/\Can (At c) c/\(∀ p d o,At l p d o->At c p d o)/\(∀ p d o,At c p d o->ClG g l p d o)/\m=hP (wu 12) (onU (At c))/\r=some ((eP g l,()),())) ?_ N0 (hP (wu 12) (onU (At (fy l)))) _ _ (by
  have:=jd (wu 12) (onU (At (fy l)))
  rw[KW]at this
  unfold N0;omega) ⟨fy l,rfl,⟨Ff.st,Ff.bd,λ_ _ _=>jI⟩,λp d o h=>(Ff.at' p d o).2 h,λp d o h=>.base ((Ff.at' p d o).1 h),rfl,rfl⟩
 rintro m z r ⟨c,rfl,hc,hlc,hcc,rfl,rfl⟩ K hK
 have hcl:c.length<=273:=lK hc λp d o h=>Se _ _ _ (hcc _ _ _ h)
 simp only[bD,bL]
 rw[if_pos (by omega),if_pos (by omega)]
 have hal:=vE hg c
 refine bE (λj=>((),(BT c (km g (c.take j)),((j:Int),())))) (λ_=>some ((eP g l,()),())) c.length (λj hj L hL=>?_) N0 0 (aC _) (by unfold N0;omega)
 simp only[oP]at hL |-
 rcases ak j c.length with hjl|hjl
 ·have cj:(j:Int)<(c.length:Int):=by omega
  have hL:=hL hjl
  have hj1:IntKind.wrap .i64 ((j:Int)+1)=((j+1:Nat):Int):=bS hjl (by omega)
  have hx:=hc.bd _ (ba hjl)
  have XU:=vE hg (c.take j)
  rw[aN]at XU
  have hsn:km g (c.take (j+1))=km g (c.take j)++Dq g c[j]:=by
   unfold km
   rw[cM _ _ hjl,gD]
   simp
  rw[hsn,<-aO]at hL
  simp only[cj,if_true,aJ,aa,List.getElem?_eq_getElem hjl,hj1,za,aB]
  have hol:(c++km g (c.take j)).length<=10000:=by rw[aj];omega
  generalize c++km g (c.take j)=out at *
  generalize c[j]=x at *
  rw[<-hL]
  unfold Dq
  cases hn:fV g x.1 x.2.1 with
  |none=>simp
  |some y=>
   cases hy:y.1
   ·simp[hy]
   ·obtain⟨n1,n2⟩:=vA hn
    have n3:=oO hg x.1
    have hw2:IntKind.wrap .i64 (x.2.1+1)=((x.2.1.toNat+1:Nat):Int):=by rw[bz (by omega) (by omega)];omega
    simp only[aA,ap,if_false,hy,Ll,aB,hw2,if_true]
    rw[if_pos ⟨by omega,by omega,by omega⟩,vB]
    have e55:=O9 (n:=g.2.1.length) (f:=tE g.2.2.1 g.2.1.length) (F:=tF g.2.2.1 g.2.1.length) (λi=>K7 i) (body:=qC g x.1 x.2.1) (λz hz=>BR hg x.1 z (ir hz)) (by unfold qC;rw[bB];unfold maxLen;omega) (look:=x.2.2) hx
    have XV:JZ N0 (bsS g.2.1.length (tE g.2.2.1 g.2.1.length),(inN g.2.1.length (tF g.2.2.1 g.2.1.length),((dz g x.1).1.drop (x.2.1.toNat+1),(x.2.2,()))))=some ((wG g x.1 x.2.1 x.2.2,()),()):=e55
    rw[XV]
    simp only[aB]
    generalize wG g x.1 x.2.1 x.2.2=w
    refine bE (λi=>((),(BT out (mK g y.2 w i),((i:Int),())))) (λ_=>L ((),(out++mK g y.2 w g.2.2.1.length,(((j+1:Nat):Int),())))) g.2.2.1.length (λi hi M hM=>?_) N0 0 (aC _) (by unfold N0;omega)
    simp only[oP]at hM |-
    rcases ak i g.2.2.1.length with hil|hil
    ·have ci:(i:Int)<(g.2.2.1.length:Int):=by omega
     have hM:=hM hil
     have hi1:IntKind.wrap .i64 ((i:Int)+1)=((i+1:Nat):Int):=bS hil (by omega)
     have hnl:=si g y.2 w i
     rw[vC,List.getElem?_eq_getElem hil,<-aO]at hM
     simp only[ci,if_true,aJ,aa,List.getElem?_eq_getElem hil,hi1]
     have Yk:(out++mK g y.2 w i).length<=20000:=by rw[aj];omega
     generalize out++mK g y.2 w i=vF at *
     rw[<-hM]
     by_cases he:g.2.2.1[i].1=y.2
     ·simp only[he,if_true,aM,bD]
      rw[if_pos (by omega),if_pos (by omega)]
     ·simp only[he,if_false,b9]
    ·have ci:¬(i:Int)<(g.2.2.1.length:Int):=by omega
     have e:i=g.2.2.1.length:=by omega
     subst e
     simp only[ci,if_false]
 ·have cj:¬(j:Int)<(c.length:Int):=by omega
  rw[bP hjl]
  have hbd:∀ x∈c++km g c,jc x:=λx hx=>by
   rcases au.1 hx with hx|hx
   ·exact hc.bd x hx
   ·exact Pl hc.bd x hx
  have hcn:=jg hbd
  have hat:∀ p d o,At (fy (c++km g c)) p d o↔At c p d o\/Stp (stG g) (fsG g) (nlG g) (At c) p d o:=λp d o=>by
   rw[hcn.at',jl,Pk]
  have Sf:∀ p d o,At (fy (c++km g c)) p d o->ClG g l p d o:=λp d o h=>by
   rcases(hat p d o).1 h with h|h
   ·exact hcc _ _ _ h
   ·exact Cl.stp (h.mono hcc)
  have hnl:(fy (c++km g c)).length<=273:=lK (A:=At (fy (c++km g c))) ⟨hcn.st,hcn.bd,λ_ _ _=>jI⟩ λp d o h=>Se _ _ _ (Sf _ _ _ h)
  have e53:=yZ hbd (by rw[aj];omega)
  simp only[cj,if_false,e53,aB,Lr (by omega:(fy (c++km g c)).length<=1000000),decide_eq_true_eq]
  by_cases he:fy (c++km g c)=c
  ·rw[if_pos he]
   have Lu:∀ p d o,At c p d o↔ClG g l p d o:=λp d o=>⟨hcc p d o,λh=>Cl.least hlc (λp d o hs=>by
    rw[<-he];exact(hat p d o).2 (.inr hs)) h⟩
   rw[(hc.congr Lu).BE Dr]
  ·rw[if_neg he]
   refine hK (hP (wu 12) (onU (At (fy (c++km g c))))) _ _ ?_ ⟨_,rfl,⟨hcn.st,hcn.bd,λ_ _ _=>jI⟩,λp d o h=>(hat p d o).2 (.inl (hlc _ _ _ h)),Sf,rfl,rfl⟩
   exact KX hc ⟨hcn.st,hcn.bd,λ_ _ _=>jI⟩ (λp d o h=>(hat p d o).2 (.inl h)) (λp d o h=>Se _ _ _ (Sf _ _ _ h)) (λe=>he e.symm)
end
noncomputable section
def nI(g:GrS)(s:Int)(n:Nat):Bool:=match g.2.2.1[n]? with
 |some pr=>decide (pr.1=s)
 |none=>false
def T1(g:GrS)(s:Int)(T:Nat->Bool)(j:Nat):Nat->Bool:=λn=>T n||(decide (n<j)&&nI g s n)
def L1(g:GrS)(s w:Int)(L:Nat->Int)(j:Nat):Nat->Int:=λn=>if(decide (n<j)&&nI g s n)=true then orI (L n) w else L n
def iN(g:GrS)(s w:Int)(T:Nat->Bool)(L:Nat->Int)(n:Nat):Bool:=nI g s n&&!(T n&&decide (orI (L n) w=L n))
def N1(g:GrS)(s w:Int)(T:Nat->Bool)(L:Nat->Int)(j:Nat):List ItS:=(List.range j).flatMap λn=>if iN g s w T L n=true then [((n:Int),((0:Int),orI (L n) w))]else []
variable {g:GrS} {s w:Int} {T:Nat->Bool} {L:Nat->Int}
theorem zb(j:Nat):N1 g s w T L (j+1)=N1 g s w T L j++(if iN g s w T L j=true then [((j:Int),((0:Int),orI (L j) w))]else []):=by
 unfold N1
 rw[gG,gD]
 simp
theorem Sh(j:Nat):(N1 g s w T L j).length<=j:=by
 induction j with
 |zero=>simp[N1]
 |succ j ih=>
  rw[zb,aj]
  split
  ·simp;omega
  ·simp;omega
theorem UP:T1 g s T 0=T:=by funext n;simp[T1]
theorem UQ:L1 g s w L 0=L:=by funext n;simp[L1]
theorem zd{j:Nat}(h:iN g s w T L j=false):T1 g s T (j+1)=T1 g s T j:=by
 funext n
 unfold T1
 by_cases e:n=j
 ·subst e
  unfold iN at h
  cases hh:nI g s n
  ·simp
  ·rw[hh]at h
   cases ht:T n
   ·rw[ht]at h;cases h
   ·simp
 ·by_cases h2:n<j
  ·simp[h2,fe h2]
  ·have:¬n<j+1:=by omega
   simp[h2,this]
theorem ze{j:Nat}(h:iN g s w T L j=false):L1 g s w L (j+1)=L1 g s w L j:=by
 funext n
 unfold L1
 by_cases e:n=j
 ·subst e
  unfold iN at h
  cases hh:nI g s n
  ·simp
  ·rw[hh]at h
   have:orI (L n) w=L n:=(by simpa using h:T n=true/\orI (L n) w=L n).2
   simp_all
 ·by_cases h2:n<j
  ·simp[h2,fe h2]
  ·have:¬n<j+1:=by omega
   simp[h2,this]
theorem Ds{j:Nat}(h:iN g s w T L j=true):T1 g s T (j+1)=di (T1 g s T j) j true:=by
 funext n
 unfold T1 di
 by_cases e:n=j
 ·subst e
  unfold iN at h
  rw[ag]at h
  simp[h.1]
 ·rw[if_neg e]
  by_cases h2:n<j
  ·simp[h2,fe h2]
  ·have:¬n<j+1:=by omega
   simp[h2,this]
theorem Dt{j:Nat}(h:iN g s w T L j=true):L1 g s w L (j+1)=di (L1 g s w L j) j (orI (L j) w):=by
 funext n
 unfold L1 di
 by_cases e:n=j
 ·subst e
  unfold iN at h
  rw[ag]at h
  simp[h.1]
 ·rw[if_neg e]
  by_cases h2:n<j
  ·simp[h2,fe h2]
  ·have:¬n<j+1:=by omega
   simp[h2,this]
theorem P0(j:Nat):T1 g s T j j=T j:=by simp[T1]
theorem Lv(j:Nat):L1 g s w L j j=L j:=by simp[L1]
theorem XW(hU:j9 L)(hw:U64 w)(j:Nat):j9 (L1 g s w L j):=λn=>by
 unfold L1;split
 ·exact mJ (hU n) hw
 ·exact hU n
set_option maxHeartbeats 1000000 in
theorem Si(hg:Gs g)(hU:j9 L)(hw:U64 w)(t:List Bool×List Int)(o:List ItS)(ho:o.length<=200000):
 p96 N0 ((g,(t,(bsS g.2.2.1.length T,(inN g.2.2.1.length L,o)))),(s,(w,())))=
  some ((),(((g,(t,(bsS g.2.2.1.length (T1 g s T g.2.2.1.length),(inN g.2.2.1.length (L1 g s w L g.2.2.1.length),o++N1 g s w T L g.2.2.1.length)))),()))):=by
 have hps:=hg.ps
 delta p96 Ld Ap Bd Wi
 simp only[aH,bM,decide_eq_true_eq]
 refine(congrArg (λz=>aD _ N0 z) (?_:_=(((g,(t,(bsS g.2.2.1.length (T1 g s T 0),(inN g.2.2.1.length (L1 g s w L 0),BT o (N1 g s w T L 0))))),()),(((0:Nat):Int),())))).trans
  ((bE (λj=>(((g,(t,(bsS g.2.2.1.length (T1 g s T j),(inN g.2.2.1.length (L1 g s w L j),BT o (N1 g s w T L j))))),()),((j:Int),()))) (λ_=>some ((),(((g,(t,(bsS g.2.2.1.length (T1 g s T g.2.2.1.length),(inN g.2.2.1.length (L1 g s w L g.2.2.1.length),BT o (N1 g s w T L g.2.2.1.length))))),())))) g.2.2.1.length (λj hj K hK=>?_) N0 0 (aC _) (by unfold N0;omega)).trans (by rw[oP]))
 ·rw[UP,UQ];rfl
 ·simp only[oP]at hK |-
  rcases ak j g.2.2.1.length with h|h
  ·have c:(j:Int)<(g.2.2.1.length:Int):=by omega
   have hK:=hK h
   have hj1:IntKind.wrap .i64 ((j:Int)+1)=((j+1:Nat):Int):=bS h (by omega)
   have hh:nI g s j=decide (g.2.2.1[j].1=s):=by unfold nI;rw[List.getElem?_eq_getElem h]
   have hnl:=Sh (g:=g) (s:=s) (w:=w) (T:=T) (L:=L) j
   simp only[c,if_true,aJ,aa,List.getElem?_eq_getElem h,hj1]
   rw[zb]at hK
   by_cases he:g.2.2.1[j].1=s
   ·have hh':nI g s j=true:=by rw[hh];simp[he]
    simp only[he,decide_true,aA,ap,if_false,jy _ h,kC _ h,P0,Lv,mq (hU j) hw]
    cases hT:T j
    ·have hn:iN g s w T L j=true:=by unfold iN;rw[hh',hT];rfl
     rw[if_pos hn,Ds hn,Dt hn,<-aO]at hK
     simp only[ap,if_false,tI,oM,aM,bD,aj]
     rw[kC _ h,show di (L1 g s w L j) j (orI (L j) w) j=orI (L j) w from if_pos rfl]
     dsimp only
     rw[if_pos (by omega),if_pos (by omega)]
     exact hK
    ·simp only[if_true,decide_eq_true_eq]
     by_cases hq:orI (L j) w=L j
     ·have hn:iN g s w T L j=false:=by unfold iN;rw[hh',hT];simp[hq]
      rw[if_neg (by rw[hn];exact jC),zd hn,ze hn,b9]at hK
      simp only[hq,if_true]
      exact hK
     ·have hn:iN g s w T L j=true:=by unfold iN;rw[hh',hT];simp[hq]
      rw[if_pos hn,Ds hn,Dt hn,<-aO]at hK
      simp only[hq,if_false,tI,oM,aM,bD,aj]
      rw[kC _ h,show di (L1 g s w L j) j (orI (L j) w) j=orI (L j) w from if_pos rfl]
      dsimp only
      rw[if_pos (by omega),if_pos (by omega)]
      exact hK
   ·have hh':nI g s j=false:=by rw[hh];simp[he]
    have hn:iN g s w T L j=false:=by unfold iN;rw[hh'];rfl
    rw[if_neg (by rw[hn];exact jC),zd hn,ze hn,b9]at hK
    simp only[he,decide_false,aI,if_true]
    exact hK
  ·have c:¬(j:Int)<(g.2.2.1.length:Int):=by omega
   have e:j=g.2.2.1.length:=by omega
   subst e
   simp only[c,if_false]
end
noncomputable section
theorem Lw{l:List ItS}(hl:l.length<=1000000):p94 N0 (l,())=some ((l,()),()):=by
 delta p94 Ap
 simp only[bD,bL,bM]
 unfold MH
 cases l with
 |nil=>exact IC _
 |cons x l=>
  simp only[List.isEmpty_cons,ap,if_false,cond_false]
  rw[if_pos (by omega),if_pos (by omega)]
variable {g:GrS} {s w:Int} {T:Nat->Bool} {L:Nat->Int}
def nJ(k:Nat)(T:Nat->Bool)(L:Nat->Int):Nat:=nH k L+hP (List.range k) λi=>T i=true
theorem BU(k:Nat)(T:Nat->Bool)(L:Nat->Int):nJ k T L<=k*65:=by
 have h1:=jd (Dj k) λu=>(L u.1).toNat.testBit u.2=true
 have h2:=jd (List.range k) λi=>T i=true
 rw[vq]at h1
 rw[kR]at h2
 unfold nJ nH
 omega
theorem Fg(hU:j9 L)(hw:U64 w):∀ j,j<=g.2.2.1.length->(N1 g s w T L j).length+nJ g.2.2.1.length (T1 g s T j) (L1 g s w L j)<=nJ g.2.2.1.length T L
 |0,_=>by rw[UP,UQ];simp[N1]
 |j+1,hj=>by
  have ih:=Fg hU hw j (by omega)
  rw[zb,aj]
  cases hn:iN g s w T L j
  ·rw[if_neg (by simp),zd hn,ze hn]
   simpa using ih
  ·rw[if_pos rfl,Ds hn,Dt hn]
   have hle:leF (L1 g s w L j) (di (L1 g s w L j) j (orI (L j) w)):=λi b hb=>by
    unfold di
    split
    ·rename_i e
     subst e
     rw[Lv]at hb
     rw[dL,hb,dP]
    ·exact hb
   have UR:∀ i,T1 g s T j i=true->di (T1 g s T j) j true i=true:=λi hi=>by
    unfold di
    split
    ·rfl
    ·exact hi
   have hlt:nJ g.2.2.1.length (di (T1 g s T j) j true) (di (L1 g s w L j) j (orI (L j) w))<nJ g.2.2.1.length (T1 g s T j) (L1 g s w L j):=by
    have h1:nH g.2.2.1.length (di (L1 g s w L j) j (orI (L j) w))<=nH g.2.2.1.length (L1 g s w L j):=qx λu _ hu=>hle _ _ hu
    have h2:hP (List.range g.2.2.1.length) (λi=>di (T1 g s T j) j true i=true)<=hP (List.range g.2.2.1.length) (λi=>T1 g s T j i=true):=qx λu _ hu=>UR _ hu
    unfold nJ
    cases hT:T j
    ·have:=oK (U:=List.range g.2.2.1.length) (P:=λi=>T1 g s T j i=true) (Q:=λi=>di (T1 g s T j) j true i=true) (λu _ hu=>UR _ hu) (cz.2 (by omega:j<g.2.2.1.length)) (by show ¬T1 g s T j j=true;rw[P0,hT];exact jC) (by show di (T1 g s T j) j true j=true;unfold di;rw[if_pos rfl])
     omega
    ·have hne:orI (L j) w≠L j:=by
      unfold iN at hn
      rw[hT]at hn
      intro e
      simp[e]at hn
     obtain⟨b,hb,hb1,hb2⟩:=La hw (hU j) (by rw[qB];exact hne)
     have:=vt (n:=g.2.2.1.length) hle (i:=j) (b:=b) (by omega) hb (by rw[Lv];exact hb1) (by unfold di;rw[if_pos rfl,qB];exact hb2)
     omega
   simp only[aM,bD]
   omega
theorem Lx{j:Nat}{y:ItS}:y∈N1 g s w T L j↔∃ n,n<j/\iN g s w T L n=true/\y=((n:Int),((0:Int),orI (L n) w)):=by
 unfold N1
 simp only[dD,cz]
 constructor
 ·rintro⟨n,hn,hy⟩
  split at hy
  ·rename_i h;exact⟨n,hn,h,aL.1 hy⟩
  ·cases hy
 ·rintro⟨n,hn,h,rfl⟩
  exact⟨n,hn,by rw[if_pos h];exact aL.2 rfl⟩
def qD(g:GrS)(T:Nat->Bool)(L:Nat->Int)(x:ItS):Prop:=∀ q,stG g x.1 x.2.1 q->T q.toNat=true/\∀ b,(wG g x.1 x.2.1 x.2.2).toNat.testBit b=true->(L q.toNat).toNat.testBit b=true
theorem qD.mono{T':Nat->Bool}{L':Nat->Int}(hT:∀ i,T i=true->T' i=true)(hL:leF L L'){x:ItS}(h:qD g T L x):qD g T' L' x:=λq hq=>⟨hT _ (h q hq).1,λb hb=>hL _ _ ((h q hq).2 b hb)⟩
theorem Fh{j:Nat}(i:Nat)(h:T i=true):T1 g s T j i=true:=by unfold T1;rw[h,dP]
theorem Fi{j:Nat}:leF L (L1 g s w L j):=λi b hb=>by
 unfold L1;split
 ·rw[dL,hb,dP]
 ·exact hb
theorem Fj{n:Nat}:nI g s n=true↔∃ pr,g.2.2.1[n]?=some pr/\pr.1=s:=by
 unfold nI
 cases hp:g.2.2.1[n]? with
 |none=>simp
 |some pr=>simp
structure zf(g:GrS)(l:List ItS)(T:Nat->Bool)(L:Nat->Int)(o:List ItS):Prop where
 U:j9 L
 t:∀ n:Nat,T n=true->ClG g l (n:Int) 0 none
 b:∀ (n:Nat) b,(L n).toNat.testBit b=true->ClG g l (n:Int) 0 (some b)
 op:∀ x∈o,jc x/\ClG g l x.1 x.2.1 none/\∀ b,x.2.2.toNat.testBit b=true->ClG g l x.1 x.2.1 (some b)
 p1:∀ x∈l,x∈o\/qD g T L x
 p2:∀ n:Nat,T n=true->((n:Int),((0:Int),L n))∈o\/qD g T L ((n:Int),((0:Int),L n))
theorem zf.skip{l o:List ItS}{x:ItS}(h:zf g l T L (x::o))(hd:qD g T L x):zf g l T L o where
 U:=h.U
 t:=h.t
 b:=h.b
 op:=λy hy=>h.op y (bw _ hy)
 p1:=λy hy=>by
  rcases h.p1 y hy with h1|h1
  ·rcases ay.1 h1 with rfl|h1
   ·exact .inr hd
   ·exact .inl h1
  ·exact .inr h1
 p2:=λn hn=>by
  rcases h.p2 n hn with h1|h1
  ·rcases ay.1 h1 with h1|h1
   ·exact .inr (h1 ▸ hd)
   ·exact .inl h1
  ·exact .inr h1
theorem zf.step(hg:Gs g){l o:List ItS}{x:ItS}(h:zf g l T L (x::o)){s:Int}(hs:fV g x.1 x.2.1=some (true,s)):
 zf g l (T1 g s T g.2.2.1.length) (L1 g s (wG g x.1 x.2.1 x.2.2) L g.2.2.1.length) (o++N1 g s (wG g x.1 x.2.1 x.2.2) T L g.2.2.1.length):=by
 obtain⟨hxb,hx0,hxs⟩:=h.op x bm
 have hw:U64 (wG g x.1 x.2.1 x.2.2):=Pj hxb
 have hst:∀ n,nI g s n=true->stG g x.1 x.2.1 (n:Int):=λn hn=>by
  obtain⟨pr,h1,h2⟩:=Fj.1 hn
  exact⟨n,pr,rfl,h1,by rw[h2];exact hs⟩
 have hcw:∀ n b,nI g s n=true->(wG g x.1 x.2.1 x.2.2).toNat.testBit b=true->ClG g l (n:Int) 0 (some b):=λn b hn hb=>by
  rcases sf.1 hb with h1|h1
  ·exact .first hx0 (hst n hn) h1
  ·exact .look (hxs b h1.2) (hst n hn) h1.1
 have hdx:qD g (T1 g s T g.2.2.1.length) (L1 g s (wG g x.1 x.2.1 x.2.2) L g.2.2.1.length) x:=by
  rintro q ⟨k,pr,rfl,h1,h2⟩
  have hk:=(List.getElem?_eq_some_iff.1 h1).1
  have Du:nI g s k=true:=Fj.2 ⟨pr,h1,by rw[hs]at h2;cases h2;rfl⟩
  rw[aa]
  refine⟨?_,λb hb=>?_⟩
  ·unfold T1;rw[Du];simp[hk]
  ·unfold L1
   rw[if_pos (by rw[Du];simp[hk]),dL,hb,fj]
 refine⟨XW h.U hw _,λn hn=>?_,λn b hb=>?_,λy hy=>?_,λy hy=>?_,λn hn=>?_⟩
 ·unfold T1 at hn
  rw[aG,ag]at hn
  rcases hn with hn|hn
  ·exact h.t n hn
  ·exact .there hx0 (hst n hn.2)
 ·unfold L1 at hb
  split at hb
  ·rename_i hc
   rw[ag]at hc
   rw[dL,aG]at hb
   rcases hb with hb|hb
   ·exact h.b n b hb
   ·exact hcw n b hc.2 hb
  ·exact h.b n b hb
 ·rcases au.1 hy with hy|hy
  ·exact h.op y (bw _ hy)
  ·obtain⟨n,hn,s8,rfl⟩:=Lx.1 hy
   have Du:nI g s n=true:=by
    unfold iN at s8
    rw[ag]at s8
    exact s8.1
   refine⟨mJ (h.U n) hw,.there hx0 (hst n Du),λb hb=>?_⟩
   rw[dL,aG]at hb
   rcases hb with hb|hb
   ·exact h.b n b hb
   ·exact hcw n b Du hb
 ·rcases h.p1 y hy with h1|h1
  ·rcases ay.1 h1 with rfl|h1
   ·exact .inr hdx
   ·exact .inl (au.2 (.inl h1))
  ·exact .inr (h1.mono (λi=>Fh i) Fi)
 ·by_cases hch:iN g s (wG g x.1 x.2.1 x.2.2) T L n=true/\n<g.2.2.1.length
  ·left
   refine au.2 (.inr (Lx.2 ⟨n,hch.2,hch.1,?_⟩))
   have Du:nI g s n=true:=by
    have:=hch.1
    unfold iN at this
    rw[ag]at this
    exact this.1
   unfold L1
   rw[if_pos (by rw[Du];simp[hch.2])]
  ·have P1:T n=true/\L1 g s (wG g x.1 x.2.1 x.2.2) L g.2.2.1.length n=L n:=by
    unfold T1 at hn
    unfold L1
    by_cases hk:n<g.2.2.1.length
    ·have hnb:iN g s (wG g x.1 x.2.1 x.2.2) T L n=false:=by
      cases hq:iN g s (wG g x.1 x.2.1 x.2.2) T L n
      ·rfl
      ·exact absurd ⟨hq,hk⟩ hch
     unfold iN at hnb
     cases hh:nI g s n
     ·rw[hh]at hn
      simp at hn
      exact⟨hn,by simp⟩
     ·rw[hh]at hnb
      simp at hnb
      exact⟨hnb.1,by simp[hk,hnb.2]⟩
    ·simp[hk]at hn
     exact⟨hn,by simp[hk]⟩
   rw[P1.2]
   rcases h.p2 n P1.1 with h1|h1
   ·rcases ay.1 h1 with h1|h1
    ·exact .inr (h1 ▸ hdx)
    ·exact .inl (au.2 (.inl h1))
   ·exact .inr (h1.mono (λi=>Fh i) Fi)
def gx(T:Nat->Bool)(L:Nat->Int)(j:Nat):List ItS:=(List.range j).flatMap λn=>if T n=true then [((n:Int),((0:Int),L n))]else []
theorem sW(j:Nat):gx T L (j+1)=gx T L j++(if T j=true then [((j:Int),((0:Int),L j))]else []):=by
 unfold gx
 rw[gG,gD]
 simp
theorem vG(j:Nat):(gx T L j).length<=j:=by
 induction j with
 |zero=>simp[gx]
 |succ j ih=>
  rw[sW,aj]
  split
  ·simp;omega
  ·simp;omega
theorem ka{j:Nat}{y:ItS}:y∈gx T L j↔∃ n,n<j/\T n=true/\y=((n:Int),((0:Int),L n)):=by
 unfold gx
 simp only[dD,cz]
 constructor
 ·rintro⟨n,hn,hy⟩
  split at hy
  ·rename_i h;exact⟨n,hn,h,aL.1 hy⟩
  ·cases hy
 ·rintro⟨n,hn,h,rfl⟩
  exact⟨n,hn,by rw[if_pos h];exact aL.2 rfl⟩
theorem zf.full{l:List ItS}(h:zf g l T L []){p d:Int}{o:Option Nat}:At (l++gx T L g.2.2.1.length) p d o↔ClG g l p d o:=by
 rw[jl]
 have hd:∀ x∈l++gx T L g.2.2.1.length,qD g T L x:=λx hx=>by
  rcases au.1 hx with hx|hx
  ·exact(h.p1 x hx).resolve_left (λh=>by cases h)
  ·obtain⟨n,_,hn,rfl⟩:=ka.1 hx
   exact(h.p2 n hn).resolve_left (λh=>by cases h)
 constructor
 ·rintro(ha|ha)
  ·exact .base ha
  ·cases o with
   |none=>
    obtain⟨x,hx,rfl,rfl⟩:=ha
    obtain⟨n,_,hn,rfl⟩:=ka.1 hx
    exact h.t n hn
   |some b=>
    obtain⟨x,hx,rfl,rfl,hb⟩:=ha
    obtain⟨n,_,hn,rfl⟩:=ka.1 hx
    exact h.b n b hb
 ·intro ha
  rw[<-jl]
  refine Cl.least (A:=At (l++gx T L g.2.2.1.length)) (λp d o hb=>jl.2 (.inl hb)) (λp d o hs=>?_) ha
  obtain⟨rfl,hs⟩:=hs
  have key:∀ x∈l++gx T L g.2.2.1.length,stG g x.1 x.2.1 p->∃ n:Nat,p=(n:Int)/\((n:Int),((0:Int),L n))∈gx T L g.2.2.1.length/\∀ b,(wG g x.1 x.2.1 x.2.2).toNat.testBit b=true->(L n).toNat.testBit b=true:=λx hx hst=>by
   obtain⟨h1,h2⟩:=hd x hx p hst
   obtain⟨k,pr,rfl,h3,_⟩:=hst
   rw[aa]at h1 h2
   exact⟨k,rfl,ka.2 ⟨k,(List.getElem?_eq_some_iff.1 h3).1,h1,rfl⟩,h2⟩
  cases o with
  |none=>
   obtain⟨p',d',⟨x,hx,rfl,rfl⟩,hst⟩:=hs
   obtain⟨n,rfl,hm,_⟩:=key x hx hst
   exact⟨_,au.2 (.inr hm),rfl,rfl⟩
  |some b=>
   obtain⟨p',d',hst,⟨⟨x,hx,rfl,rfl⟩,hf⟩|⟨⟨x,hx,rfl,rfl,hb⟩,hn⟩⟩:=hs
   ·obtain⟨n,rfl,hm,hw⟩:=key x hx hst
    exact⟨_,au.2 (.inr hm),rfl,rfl,hw b (sf.2 (.inl hf))⟩
   ·obtain⟨n,rfl,hm,hw⟩:=key x hx hst
    exact⟨_,au.2 (.inr hm),rfl,rfl,hw b (sf.2 (.inr ⟨hn,hb⟩))⟩
end
noncomputable section
theorem zg{α:Type}(x:α)(l:List α):cC (x::l) 1 (((x::l).length:Nat):Int)=l:=by simp[cC]
set_option maxHeartbeats 2000000 in
theorem Ly{g:GrS}(hg:Gs g){l:List ItS}(hl:OkI l)(hll:l.length<=100000):
 p47 N0 (g,((bsS g.2.1.length (tE g.2.2.1 g.2.1.length),inN g.2.1.length (tF g.2.2.1 g.2.1.length)),(l,())))=some ((eP g l,()),()):=by
 have hps:=hg.ps
 have Dr:=fI hg hl
 obtain⟨k,hk⟩:∃ k,k=g.2.2.1.length:=⟨_,rfl⟩
 delta p47 Ld Ap Bd Wi
 simp only[aH]
 simp only[bM,decide_eq_true_eq]
 simp only[<-hk,yV,qz,aa]
 rw[<-hk]at hps
 rw[if_pos ⟨by omega,by omega⟩,if_pos (by omega),if_pos ⟨by omega,by omega⟩,if_pos (by omega)]
 rw[ae (Lw (by omega:l.length<=1000000))]
 simp only
 refine aZ (λm z r=>∃ (T:Nat->Bool) (L:Nat->Int) (o:List ItS),z=(((g,((bsS g.2.1.length (tE g.2.2.1 g.2.1.length),inN g.2.1.length (tF g.2.2.1 g.2.1.length)),(bsS k T,(inN k L,o)))),()),())/\zf g l T L o/\m=o.length+nJ k T L/\m<=101000/\r=some ((eP g l,()),())) ?_ N0 (l.length+nJ k (λ_=>false) (λ_=>0)) _ _ (by
  have:=BU k (λ_=>false) (λ_=>0)
  unfold N0;omega) ⟨λ_=>false,λ_=>0,l,rfl,⟨λ_=>xo,(λn h=>by cases h),(λn b h=>by simp at h),λx hx=>⟨hl.bd x hx,.base ⟨x,hx,rfl,rfl⟩,λb hb=>.base ⟨x,hx,rfl,rfl,hb⟩⟩,λx hx=>.inl hx,(λn h=>by cases h)⟩,rfl,by
  have:=BU k (λ_=>false) (λ_=>0)
  omega,rfl⟩
 rintro m z r ⟨T,L,o,rfl,hI,rfl,hm,rfl⟩ K hK
 cases o with
 |cons x o=>
  have c:(0:Int)<(((x::o).length:Nat):Int):=by rw[aM];omega
  have c2:(0:Int)<=1/\(1:Int)<=(((x::o).length:Nat):Int)/\True:=⟨by omega,by rw[aM];omega,trivial⟩
  have hlen:(x::o).length=o.length+1:=rfl
  obtain⟨hxb,_,_⟩:=hI.op x bm
  simp only[c,if_true,iA,Int.toNat_zero,List.getElem?_cons_zero,Dn,aB]
  rw[if_pos c2]
  have P2:qD g T L x->K (((g,((bsS g.2.1.length (tE g.2.2.1 g.2.1.length),inN g.2.1.length (tF g.2.2.1 g.2.1.length)),(bsS k T,(inN k L,o)))),()),())=some ((eP g l,()),()):=λhd=>
   hK (o.length+nJ k T L) _ _ (by omega) ⟨T,L,o,rfl,hI.skip hd,rfl,by omega,rfl⟩
  cases hn:fV g x.1 x.2.1 with
  |none=>
   simp only[ap,if_false,zg]
   exact P2 λq hq=>by
    obtain⟨_,_,_,_,h⟩:=hq
    rw[hn]at h;cases h
  |some y=>
   obtain⟨y1,y2⟩:=y
   cases y1
   ·simp only[if_true,ap,if_false,zg]
    exact P2 λq hq=>by
     obtain⟨_,_,_,_,h⟩:=hq
     rw[hn]at h;cases h
   ·have n3:=oO hg x.1
    have e77:p97 N0 ((bsS g.2.1.length (tE g.2.2.1 g.2.1.length),inN g.2.1.length (tF g.2.2.1 g.2.1.length)),(qC g x.1 x.2.1,(x.2.2,())))=some ((wG g x.1 x.2.1 x.2.2,()),()):=
     R7 (λi=>K7 i) (λz hz=>BR hg x.1 z (ir hz)) (by show(List.drop _ _).length<=_;rw[bB];unfold maxLen;omega) hxb
    have e76:=Si (g:=g) (s:=y2) (T:=T) (L:=L) hg hI.U (Pj (g:=g) (p:=x.1) (d:=x.2.1) hxb) (bsS g.2.1.length (tE g.2.2.1 g.2.1.length),inN g.2.1.length (tF g.2.2.1 g.2.1.length)) o (by omega)
    rw[<-hk]at e76
    simp only[if_true,zg,Sc hg hn,aB,e77]
    rw[e76]
    simp only[aB]
    have US:=Fg (g:=g) (s:=y2) (T:=T) (L:=L) hI.U (Pj (g:=g) (p:=x.1) (d:=x.2.1) hxb) g.2.2.1.length (ar _)
    have sV:=hI.step hg hn
    rw[<-hk]at US sV
    exact hK (o.length+(N1 g y2 (wG g x.1 x.2.1 x.2.2) T L k).length+nJ k (T1 g y2 T k) (L1 g y2 (wG g x.1 x.2.1 x.2.2) L k)) _ _ (by omega) ⟨_,_,_,rfl,sV,by rw[aj],by omega,rfl⟩
 |nil=>
  simp only[bD,show ¬(0:Int)<((0:Nat):Int) by omega,if_false,oL]
  rw[ae (Lw (by omega:l.length<=1000000))]
  simp only
  have hth:=vG (T:=T) (L:=L) k
  refine bE (λj=>((),(BT l (gx T L j),((j:Int),())))) (λ_=>some ((eP g l,()),())) k (λj hj M hM=>?_) N0 0 (aC _) (by unfold N0;omega)
  simp only[oP]at hM |-
  rcases ak j k with hjk|hjk
  ·have cj:(j:Int)<(k:Int):=by omega
   have hM:=hM hjk
   have hj1:IntKind.wrap .i64 ((j:Int)+1)=((j+1:Nat):Int):=bS hjk (by omega)
   have Yl:=vG (T:=T) (L:=L) j
   rw[sW,<-aO]at hM
   simp only[cj,if_true,aJ,aa,jy _ hjk,kC _ hjk,hj1]
   cases hT:T j
   ·rw[hT]at hM
    simpa using hM
   ·rw[hT]at hM
    simp only[if_true,aj,aM,bD]at hM |-
    rw[if_pos (by omega),if_pos (by omega)]
    exact hM
  ·have cj:¬(j:Int)<(k:Int):=by omega
   have e:j=k:=by omega
   subst e
   simp only[cj,if_false]
   have hbd:∀ x∈l++gx T L j,jc x:=λx hx=>by
    rcases au.1 hx with hx|hx
    ·exact hl.bd x hx
    ·obtain⟨n,_,_,rfl⟩:=ka.1 hx
     exact hI.U n
   rw[Li hbd (by rw[aj];omega)]
   simp only[aB]
   have Lu:∀ p d o,At (l++gx T L j) p d o↔ClG g l p d o:=λp d o=>by
    rw[hk];exact hI.full
   rw[((jg hbd).congr Lu).BE Dr]
def mz(g:GrS):List ItS:=[((g.2.2.1.length:Int),((0:Int),kj 63))]
theorem Sj(g:GrS):p48 N0 (g,())=some ((mz g,()),()):=by
 unfold p48
 simp only[yT 63 (by omega) (by omega),aB]
 rfl
theorem Sk(g:GrS):p86 N0 (g,())=some ((mz g,()),()):=by
 unfold p86
 simp only[E0,aB]
 rfl
theorem sj{g:GrS}(hg:Gs g):OkI (mz g):=by
 have:=hg.ps
 refine⟨λx hx=>?_,λx hx=>?_⟩
 ·rw[aL.1 hx];exact pD 63
 ·rw[aL.1 hx]
  exact⟨by show(0:Int)<=(g.2.2.1.length:Int);omega,by show(g.2.2.1.length:Int)<=12;omega,by show(0:Int)<=0;omega,by show(0:Int)<=20;omega⟩
def goX(g:GrS)(s:SyS)(x:ItS):List ItS:=if fV g x.1 x.2.1=some s then [(x.1,(x.2.1+1,x.2.2))]else []
def goL(g:GrS)(s:SyS)(l:List ItS):List ItS:=l.flatMap (goX g s)
theorem oQ(g:GrS)(s:SyS):∀ l,(goL g s l).length<=l.length
 |[]=>by simp[goL]
 |x::l=>by
  have:=oQ g s l
  unfold goL at *
  rw[jD,aj,aM]
  have:(goX g s x).length<=1:=by unfold goX;split <;> simp
  omega
theorem mC{g:GrS}{s:SyS}{l:List ItS}{y:ItS}:y∈goL g s l↔∃ x∈l,fV g x.1 x.2.1=some s/\y=(x.1,(x.2.1+1,x.2.2)):=by
 unfold goL
 rw[dD]
 constructor
 ·rintro⟨x,hx,hy⟩
  unfold goX at hy
  split at hy
  ·rename_i h;exact⟨x,hx,h,aL.1 hy⟩
  ·cases hy
 ·rintro⟨x,hx,h,rfl⟩
  exact⟨x,hx,by unfold goX;rw[if_pos h];exact aL.2 rfl⟩
theorem sk{g:GrS}(hg:Gs g)(s:SyS){l:List ItS}(hl:OkI l):OkI (goL g s l):=by
 refine⟨λy hy=>?_,λy hy=>?_⟩
 ·obtain⟨x,hx,_,rfl⟩:=mC.1 hy
  exact hl.bd x hx
 ·obtain⟨x,hx,hn,rfl⟩:=mC.1 hy
  have:=Sb hg hn
  exact⟨this.1,this.2.1,by show 0<=x.2.1+1;omega,by show x.2.1+1<=20;omega⟩
theorem tJ{l:List ItS}(hl:OkI l):OkI (fy l):=by
 have hc:=jg hl.bd
 exact Lp hc λp d o h=>hl.inU h
theorem BV(g:GrS)(s:SyS)(l:List ItS){j:Nat}(h:j<l.length):goL g s (l.take (j+1))=goL g s (l.take j)++goX g s l[j]:=by
 unfold goL
 rw[cM _ _ h,gD]
 simp
theorem mD{y s:SyS}:((bif(y.1 == s.1)then decide (y.2=s.2)else false)=true)↔some y=some s:=by
 obtain⟨a,b⟩:=y
 obtain⟨c,d⟩:=s
 cases a <;> cases c <;> simp
theorem Sl{g:GrS}(hg:Gs g)(s:SyS){l:List ItS}(hl:OkI l)(hll:l.length<=100000):p50 N0 (g,(l,(s,())))=some ((fy (goL g s l),()),()):=by
 delta p50 Ld Ap Bd Wi
 simp only[aH,decide_eq_true_eq]
 refine bE (λj=>((),(goL g s (l.take j),((j:Int),())))) (λ_=>some ((fy (goL g s l),()),())) l.length (λj hj K hK=>?_) N0 0 (aC _) (by unfold N0;omega)
 rcases ak j l.length with h|h
 ·have c:(j:Int)<(l.length:Int):=by omega
  have hK:=hK h
  have hj1:IntKind.wrap .i64 ((j:Int)+1)=((j+1:Nat):Int):=bS h (by omega)
  have hgl:=oQ g s (l.take j)
  rw[aN]at hgl
  rw[BV g s l h]at hK
  have hrg:=hl.rg _ (ba h)
  simp only[c,decide_true,cond_true,aJ,if_true,aa,List.getElem?_eq_getElem h,Dn,aB,hj1]
  generalize l[j]=x at *
  generalize goL g s (l.take j)=out at *
  have hw:IntKind.wrap .i64 (x.2.1+1)=x.2.1+1:=bz (by omega) (by omega)
  rw[<-hK]
  unfold goX
  cases hn:fV g x.1 x.2.1 with
  |none=>simp
  |some y=>
   simp only[cond_true,hw]
   by_cases he:some y=some s
   ·rw[mD.2 he,cond_true,if_pos he,if_pos (by simp;omega),if_pos (by simp;omega)]
   ·have hf:(bif(y.1 == s.1)then decide (y.2=s.2)else false)=false:=by
     cases hq:(bif(y.1 == s.1)then decide (y.2=s.2)else false)
     ·rfl
     ·exact absurd (mD.1 hq) he
    rw[hf,cond_false,if_neg he,b9]
 ·have c:¬(j:Int)<(l.length:Int):=by omega
  simp only[c,decide_false,cond_false]
  rw[bP h]
  have hok:=sk hg s hl
  have:=oQ g s l
  rw[Li hok.bd (by omega)]
  rfl
theorem Sn{g:GrS}(hg:Gs g)(s:SyS){l:List ItS}(hl:OkI l)(hll:l.length<=100000):p88 N0 (g,(l,(s,())))=some ((fy (goL g s l),()),()):=by
 delta p88 Ld Ap Bd Wi
 simp only[aH,decide_eq_true_eq]
 refine bE (λj=>((),(goL g s (l.take j),((j:Int),())))) (λ_=>some ((fy (goL g s l),()),())) l.length (λj hj K hK=>?_) N0 0 (aC _) (by unfold N0;omega)
 rcases ak j l.length with h|h
 ·have c:(j:Int)<(l.length:Int):=by omega
  have hK:=hK h
  have hj1:IntKind.wrap .i64 ((j:Int)+1)=((j+1:Nat):Int):=bS h (by omega)
  have hgl:=oQ g s (l.take j)
  rw[aN]at hgl
  rw[BV g s l h]at hK
  have hrg:=hl.rg _ (ba h)
  simp only[c,decide_true,cond_true,aJ,if_true,aa,List.getElem?_eq_getElem h,za,aB,hj1]
  generalize l[j]=x at *
  generalize goL g s (l.take j)=out at *
  have hw:IntKind.wrap .i64 (x.2.1+1)=x.2.1+1:=bz (by omega) (by omega)
  rw[<-hK]
  unfold goX
  cases hn:fV g x.1 x.2.1 with
  |none=>simp
  |some y=>
   simp only[cond_true,hw]
   by_cases he:some y=some s
   ·rw[mD.2 he,cond_true,if_pos he,if_pos (by simp;omega),if_pos (by simp;omega)]
   ·have hf:(bif(y.1 == s.1)then decide (y.2=s.2)else false)=false:=by
     cases hq:(bif(y.1 == s.1)then decide (y.2=s.2)else false)
     ·rfl
     ·exact absurd (mD.1 hq) he
    rw[hf,cond_false,if_neg he,b9]
 ·have c:¬(j:Int)<(l.length:Int):=by omega
  simp only[c,decide_false,cond_false]
  rw[bP h]
  have hok:=sk hg s hl
  have:=oQ g s l
  rw[yZ hok.bd (by omega)]
  rfl
end
noncomputable section
structure HK(A:SyS->Prop)(l:List SyS):Prop where
 st:l.Pairwise λx y=>ltS x y=true
 mem:∀ s,s∈l↔A s
theorem Fk:∀ {l m:List SyS},l.Pairwise (λx y=>ltS x y=true)->m.Pairwise (λx y=>ltS x y=true)->(∀ x,x∈l↔x∈m)->l=m
 |[],[],_,_,_=>rfl
 |[],b::m,_,_,h=>by have:=(h b).2 bm;cases this
 |a::l,[],_,_,h=>by have:=(h a).1 bm;cases this
 |a::l,b::m,h1,h2,h=>by
  obtain⟨p1,p2⟩:=dC.1 h1
  obtain⟨q1,q2⟩:=dC.1 h2
  have e:a=b:=by
   rcases ay.1 ((h a).1 bm)with e|ha
   ·exact e
   rcases ay.1 ((h b).2 bm)with e|hb
   ·exact e.symm
   exact(yw (p1 b hb) (q1 a ha)).elim
  subst e
  have:=Fk p2 q2 (λx=>by
   constructor
   ·intro hx
    rcases ay.1 ((h x).1 (bw _ hx))with e|hm
    ·subst e
     have:=p1 x hx
     rw[mf]at this;cases this
    ·exact hm
   ·intro hx
    rcases ay.1 ((h x).2 (bw _ hx))with e|hm
    ·subst e
     have:=q1 x hx
     rw[mf]at this;cases this
    ·exact hm)
  rw[this]
theorem HK.BE{A:SyS->Prop}{l m:List SyS}(h:HK A l)(k:HK A m):l=m:=Fk h.st k.st λs=>(h.mem s).trans (k.mem s).symm
def Nxs(g:GrS)(l:List ItS)(s:SyS):Prop:=∃ x∈l,fV g x.1 x.2.1=some s
def sq(g:GrS)(out:List SyS)(x:ItS):List SyS:=match fV g x.1 x.2.1 with
 |some s=>if s∈out then out else out++[s]
 |none=>out
def oX(g:GrS)(l:List ItS):List SyS:=l.foldl (sq g) []
theorem HL(g:GrS)(l:List ItS){j:Nat}(h:j<l.length):oX g (l.take (j+1))=sq g (oX g (l.take j)) l[j]:=by
 unfold oX
 rw[cM _ _ h,fc]
 rfl
theorem xq(g:GrS)(l:List ItS):(oX g l).Nodup/\∀ s,s∈oX g l↔Nxs g l s:=by
 have key:∀ (l:List ItS) (o:List SyS),o.Nodup->(l.foldl (sq g) o).Nodup/\∀ s,s∈l.foldl (sq g) o↔s∈o\/Nxs g l s:=by
  intro l
  induction l with
  |nil=>intro o ho;exact⟨ho,λs=>⟨.inl,λh=>h.elim id λ⟨x,hx,_⟩=>by cases hx⟩⟩
  |cons x l ih=>
   intro o ho
   have hx:(sq g o x).Nodup/\∀ s,s∈sq g o x↔s∈o\/fV g x.1 x.2.1=some s:=by
    unfold sq
    cases hn:fV g x.1 x.2.1 with
    |none=>exact⟨ho,λs=>by simp⟩
    |some y=>
     simp only
     split
     ·rename_i hm
      refine⟨ho,λs=>⟨.inl,?_⟩⟩
      rintro(h|h)
      ·exact h
      ·cases h;exact hm
     ·rename_i hm
      refine⟨List.nodup_append.2 ⟨ho,n5.2 ⟨by simp,List.nodup_nil⟩,λa ha b hb=>by
       rw[aL.1 hb]
       intro e;exact hm (e ▸ ha)⟩,λs=>?_⟩
      rw[au,aL]
      constructor
      ·rintro(h|h)
       ·exact .inl h
       ·exact .inr (by rw[h])
      ·rintro(h|h)
       ·exact .inl h
       ·cases h;exact .inr rfl
   obtain⟨h1,h2⟩:=ih (sq g o x) hx.1
   refine⟨h1,λs=>(h2 s).trans ?_⟩
   rw[hx.2]
   constructor
   ·rintro((h|h)|⟨z,hz,h⟩)
    ·exact .inl h
    ·exact .inr ⟨x,bm,h⟩
    ·exact .inr ⟨z,bw _ hz,h⟩
   ·rintro(h|⟨z,hz,h⟩)
    ·exact .inl (.inl h)
    ·rcases ay.1 hz with rfl|hz
     ·exact .inl (.inr h)
     ·exact .inr ⟨z,hz,h⟩
 obtain⟨h1,h2⟩:=key l [] List.nodup_nil
 exact⟨h1,λs=>(h2 s).trans (by simp)⟩
theorem Lz(g:GrS)(o:List SyS)(x:ItS):(sq g o x).length<=o.length+1:=by
 unfold sq
 split
 ·split
  ·omega
  ·simp
 ·omega
theorem BW(g:GrS)(l:List ItS):(oX g l).length<=l.length:=by
 have key:∀ (l:List ItS) (o:List SyS),(l.foldl (sq g) o).length<=o.length+l.length:=by
  intro l
  induction l with
  |nil=>intro o;simp
  |cons x l ih=>
   intro o
   have h1:=ih (sq g o x)
   have h2:=Lz g o x
   simp only[ix,aM]
   omega
 simpa [oX]using key l []
def bN(g:GrS)(l:List ItS):List SyS:=gS (oX g l)
theorem oR(g:GrS)(l:List ItS):HK (Nxs g l) (bN g l):=by
 obtain⟨h1,h2⟩:=xq g l
 have hp:=gu (oX g l)
 have hnd:(gS (oX g l)).Nodup:=hp.nodup_iff.2 h1
 refine⟨?_,λs=>(hp.mem_iff).trans (h2 s)⟩
 have UT:=(mh (oX g l)).and hnd
 refine UT.imp λ{a b} h=>?_
 rcases uQ a b with h'|h'|h'
 ·exact h'
 ·exact absurd h' h.2
 ·have:=h.1
  unfold leS at this
  rw[h']at this;cases this
theorem lL(g:GrS)(l:List ItS):(bN g l).length<=l.length:=by
 unfold bN
 rw[(gu _).length_eq]
 exact BW g l
theorem Pm{o:List SyS}(ho:o.length<=1000000)(s:SyS):NV N0 (o,(s,()))=some ((decide (s∈o),()),()):=by
 have h103:∃ i:Int,NU N0 (o,(s,()))=some ((i,()),())/\(0<=i↔s∈o):=by
  delta NU Ld Bd Wi
  simp only[aH,decide_eq_true_eq]
  by_cases hs:s∈o
  ·-- the first place
   have Sq:∃ i,∃ h:i<o.length,o[i]=s/\∀ k (h':k<o.length),k<i->o[k]≠s:=by
    have:∀ n,(∃ i,i<n/\∃ h:i<o.length,o[i]=s)->∃ i,∃ h:i<o.length,o[i]=s/\∀ k (h':k<o.length),k<i->o[k]≠s:=by
     intro n
     induction n with
     |zero=>rintro⟨i,h,_⟩;omega
     |succ n ih=>
      rintro⟨i,hi,hl,he⟩
      by_cases hex:∃ k,k<n/\∃ h:k<o.length,o[k]=s
      ·exact ih hex
      ·have:i=n:=by
        apply ij
        intro hne
        exact hex ⟨i,by omega,hl,he⟩
       subst this
       exact⟨i,hl,he,λk h' hk e=>hex ⟨k,hk,h',e⟩⟩
    obtain⟨i,hi,he⟩:=fa.1 hs
    exact this (i+1) ⟨i,by omega,hi,he⟩
   obtain⟨i,hi,he,hno⟩:=Sq
   refine⟨i,?_,⟨λ_=>hs,λ_=>aJ i⟩⟩
   refine bE (λj=>((),((j:Int),()))) (λ_=>some (((i:Int),()),())) i (λj hj K hK=>?_) N0 0 (aC _) (by unfold N0;omega)
   have hjl:j<o.length:=by omega
   have c:(j:Int)<(o.length:Int):=by omega
   have hj1:IntKind.wrap .i64 ((j:Int)+1)=((j+1:Nat):Int):=bS hjl (by omega)
   simp only[c,decide_true,cond_true,aJ,if_true,aa,List.getElem?_eq_getElem hjl,hj1]
   by_cases e:j=i
   ·subst e
    have:(bif(s.1 == o[j].1)then decide (s.2=o[j].2)else false)=true:=mD.2 (by rw[he])
    rw[this];rfl
   ·have hne:=hno j hjl (by omega)
    have:(bif(s.1 == o[j].1)then decide (s.2=o[j].2)else false)=false:=by
     cases hq:(bif(s.1 == o[j].1)then decide (s.2=o[j].2)else false)
     ·rfl
     ·have:=mD.1 hq
      cases this
      exact absurd rfl hne
    rw[this]
    exact hK (by omega)
  ·refine⟨-1,?_,⟨λh=>by omega,λh=>absurd h hs⟩⟩
   refine bE (λj=>((),((j:Int),()))) (λ_=>some ((-1,()),())) o.length (λj hj K hK=>?_) N0 0 (aC _) (by unfold N0;omega)
   rcases ak j o.length with hjl|hjl
   ·have c:(j:Int)<(o.length:Int):=by omega
    have hj1:IntKind.wrap .i64 ((j:Int)+1)=((j+1:Nat):Int):=bS hjl (by omega)
    simp only[c,decide_true,cond_true,aJ,if_true,aa,List.getElem?_eq_getElem hjl,hj1]
    have:(bif(s.1 == o[j].1)then decide (s.2=o[j].2)else false)=false:=by
     cases hq:(bif(s.1 == o[j].1)then decide (s.2=o[j].2)else false)
     ·rfl
     ·have:=mD.1 hq
      cases this
      exact absurd (ba hjl) hs
    rw[this]
    exact hK hjl
   ·have c:¬(j:Int)<(o.length:Int):=by omega
    simp only[c,decide_false,cond_false]
 obtain⟨i,h1,h2⟩:=h103
 unfold NV
 simp only[h1,aB]
 congr 3
 by_cases hs:s∈o
 ·simp[h2.2 hs,hs]
 ·have:¬0<=i:=λh=>hs (h2.1 h)
  simp[this,hs]
theorem Ss(g:GrS){l:List ItS}(hll:l.length<=100000):p49 N0 (g,(l,()))=some ((bN g l,()),()):=by
 delta p49 Ld Ap Bd Wi
 simp only[aH,bM,decide_eq_true_eq]
 refine bE (λj=>((),(oX g (l.take j),((j:Int),())))) (λ_=>some ((bN g l,()),())) l.length (λj hj K hK=>?_) N0 0 (aC _) (by unfold N0;omega)
 have hdl:=BW g (l.take j)
 rw[aN]at hdl
 rcases ak j l.length with h|h
 ·have c:(j:Int)<(l.length:Int):=by omega
  have hK:=hK h
  have hj1:IntKind.wrap .i64 ((j:Int)+1)=((j+1:Nat):Int):=bS h (by omega)
  rw[HL g l h]at hK
  simp only[c,if_true,aJ,aa,List.getElem?_eq_getElem h,Dn,aB,hj1]
  generalize l[j]=x at *
  generalize oX g (l.take j)=out at *
  rw[<-hK]
  unfold sq
  cases hn:fV g x.1 x.2.1 with
  |none=>simp
  |some y=>
   simp only[if_true,Pm (by omega:out.length<=1000000) y,aB]
   by_cases hm:y∈out
   ·simp[hm]
   ·simp only[hm,decide_false,aI,if_true,aM,bD,if_false]
    rw[if_pos (by omega),if_pos (by omega)]
 ·have c:¬(j:Int)<(l.length:Int):=by omega
  rw[bP h]at hdl |-
  simp only[c,if_false]
  have h82:C3 N0 (oX g l,((),()))=some ((),(bN g l,())):=by
   unfold C3
   rw[if_pos (by show(oX g l).length<_;omega)]
   rfl
  rw[h82]
  rfl
end
noncomputable section
def Pn(kb:Bool)(o:List SyS)(s:SyS):Bool:=match o[o.length-1]? with
 |some y=>(y.1 == kb)&&decide (s.2<=y.2)
 |none=>false
def okS(kb:Bool)(o:List SyS)(s:SyS):Bool:=(s.1 == kb)&&!Pn kb o s
def jz(g:GrS)(l:List ItS)(kb:Bool)(o:List SyS)(b0:SyS):Nat->SyS×Bool
 |0=>(b0,false)
 |j+1=>match l[j]? with
  |some x=>(match fV g x.1 x.2.1 with
   |some s=>if(okS kb o s&&(!(jz g l kb o b0 j).2||decide (s.2<(jz g l kb o b0 j).1.2)))=true then(s,true)else jz g l kb o b0 j
   |none=>jz g l kb o b0 j)
  |none=>jz g l kb o b0 j
theorem xr(g:GrS)(l:List ItS)(kb:Bool)(o:List SyS)(b0:SyS){j:Nat}(h:j<l.length):jz g l kb o b0 (j+1)=(match fV g l[j].1 l[j].2.1 with
 |some s=>if(okS kb o s&&(!(jz g l kb o b0 j).2||decide (s.2<(jz g l kb o b0 j).1.2)))=true then(s,true)else jz g l kb o b0 j
 |none=>jz g l kb o b0 j):=by
 rw[jz,List.getElem?_eq_getElem h]
theorem xt(g:GrS)(l:List ItS)(kb:Bool)(o:List SyS)(b0:SyS):∀ j,j<=l.length->
 ((jz g l kb o b0 j).2=false->∀ k (h:k<l.length) s,k<j->fV g l[k].1 l[k].2.1=some s->okS kb o s=false)/\
 ((jz g l kb o b0 j).2=true->okS kb o (jz g l kb o b0 j).1=true/\(∃ x∈l,fV g x.1 x.2.1=some (jz g l kb o b0 j).1)/\∀ k (h:k<l.length) s,k<j->fV g l[k].1 l[k].2.1=some s->okS kb o s=true->(jz g l kb o b0 j).1.2<=s.2)
 |0,_=>⟨λ_ k h s hk=>by omega,λh=>by cases h⟩
 |j+1,hj=>by
  obtain⟨ih1,ih2⟩:=xt g l kb o b0 j (by omega)
  have hjl:j<l.length:=by omega
  rw[xr g l kb o b0 hjl]
  generalize jz g l kb o b0 j=B at *
  have hkj:∀ k (h:k<l.length),k<j+1->k<j\/k=j:=λk _ h=>by omega
  cases hn:fV g l[j].1 l[j].2.1 with
  |none=>
   simp only
   refine⟨λhb k hk s zh hs=>?_,λhb=>⟨(ih2 hb).1,(ih2 hb).2.1,λk hk s zh hs=>?_⟩⟩
   ·rcases hkj k hk zh with h|h
    ·exact ih1 hb k hk s h hs
    ·subst h;rw[hn]at hs;cases hs
   ·rcases hkj k hk zh with h|h
    ·exact(ih2 hb).2.2 k hk s h hs
    ·subst h;rw[hn]at hs;cases hs
  |some y=>
   simp only
   by_cases hc:(okS kb o y&&(!B.2||decide (y.2<B.1.2)))=true
   ·rw[if_pos hc]
    rw[ag,aG]at hc
    refine⟨(λh=>by cases h),λ_=>⟨hc.1,⟨_,ba hjl,hn⟩,λk hk s zh hs hok=>?_⟩⟩
    rcases hkj k hk zh with h|h
    ·rcases hc.2 with h2|h2
     ·have:=ih1 (by simpa using h2) k hk s h hs
      rw[this]at hok;cases hok
     ·by_cases hB:B.2=true
      ·have:=(ih2 hB).2.2 k hk s h hs hok
       have h2:y.2<B.1.2:=by simpa using h2
       show y.2<=s.2
       omega
      ·have:=ih1 (by simpa using hB) k hk s h hs
       rw[this]at hok;cases hok
    ·subst h
     rw[hn]at hs
     cases hs
     exact iA _
   ·rw[if_neg hc]
    have hc':okS kb o y=true->B.2=true/\B.1.2<=y.2:=λhok=>by
     rw[hok,bG]at hc
     have:=hc
     simp only[aG,bx,decide_eq_true_eq,not_or,Bool.not_eq_false]at this
     exact⟨this.1,by omega⟩
    refine⟨λhb k hk s zh hs=>?_,λhb=>⟨(ih2 hb).1,(ih2 hb).2.1,λk hk s zh hs hok=>?_⟩⟩
    ·rcases hkj k hk zh with h|h
     ·exact ih1 hb k hk s h hs
     ·subst h
      rw[hn]at hs
      cases hs
      cases hok:okS kb o y
      ·rfl
      ·rw[(hc' hok).1]at hb;cases hb
    ·rcases hkj k hk zh with h|h
     ·exact(ih2 hb).2.2 k hk s h hs hok
     ·subst h
      rw[hn]at hs
      cases hs
      exact(hc' hok).2
structure BX(g:GrS)(l:List ItS)(kb:Bool)(o:List SyS):Prop where
 st:o.Pairwise λx y=>ltS x y=true
 a:∀ s∈o,Nxs g l s/\(s.1=true->kb=true)
 al:∀ s,Nxs g l s->s∈o\/(s.1=kb/\∀ y∈o,ltS y s=true)\/(s.1=true/\kb=false)
theorem UU{o:List SyS}(h:o.Pairwise λx y=>ltS x y=true){y:SyS}(hy:o[o.length-1]?=some y):∀ z∈o,z=y\/ltS z y=true:=by
 intro z hz
 obtain⟨i,hi,rfl⟩:=fa.1 hz
 obtain⟨hl,rfl⟩:=List.getElem?_eq_some_iff.1 hy
 by_cases e:i=o.length-1
 ·subst e;exact .inl rfl
 ·exact .inr (nN.1 h i (o.length-1) hi hl (by omega))
theorem tK{g:GrS}{l:List ItS}{kb:Bool}{o:List SyS}(h:BX g l kb o)(s:SyS):okS kb o s=true↔s.1=kb/\∀ y∈o,ltS y s=true:=by
 unfold okS Pn
 rw[ag,beq_iff_eq]
 refine and_congr_right λhk=>?_
 cases hy:o[o.length-1]? with
 |none=>
  have:o=[]:=by
   rcases List.eq_nil_or_concat o with h|⟨a,b,rfl⟩
   ·exact h
   ·simp at hy
  subst this
  simp
 |some y=>
  have hym:=List.mem_of_getElem? hy
  have hyk:=(h.a y hym).2
  have key:ltS y s=true↔¬((y.1 == kb)=true/\s.2<=y.2):=by
   rw[mc,hk]
   cases hy1:y.1
   ·cases kb <;> simp
   ·rw[hyk hy1];simp
  simp only[bx,ik,decide_eq_false_iff_not]
  constructor
  ·intro hn z hz
   have hys:ltS y s=true:=key.2 λ⟨a,b⟩=>by
    rcases hn with hn|hn
    ·rw[a]at hn;cases hn
    ·exact hn b
   rcases UU h.st hy z hz with rfl|hlt
   ·exact hys
   ·exact yv hlt hys
  ·intro fu
   have:=key.1 (fu y hym)
   by_cases hb:(y.1 == kb)=true
   ·exact .inr λhle=>this ⟨hb,hle⟩
   ·exact .inl (by simpa using hb)
theorem BX.more{g:GrS}{l:List ItS}{kb:Bool}{o:List SyS}(h:BX g l kb o){s:SyS}(hok:okS kb o s=true)(hs:Nxs g l s)(QF:∀ t,Nxs g l t->okS kb o t=true->s.2<=t.2):BX g l kb (o++[s]):=by
 obtain⟨h1,h2⟩:=(tK h s).1 hok
 refine⟨gC.2 ⟨h.st,nO _ _,λa ha b hb=>by rw[aL.1 hb];exact h2 a ha⟩,λt ht=>?_,λt ht=>?_⟩
 ·rcases au.1 ht with ht|ht
  ·exact h.a t ht
  ·rw[aL.1 ht]
   exact⟨hs,λe=>by rw[<-h1,e]⟩
 ·rcases h.al t ht with h3|⟨h3,h4⟩|h3
  ·exact .inl (au.2 (.inl h3))
  ·have hle:=QF t ht ((tK h t).2 ⟨h3,h4⟩)
   by_cases e:t=s
   ·exact .inl (au.2 (.inr (aL.2 e)))
   ·refine .inr (.inl ⟨h3,λy hy=>?_⟩)
    rcases au.1 hy with hy|hy
    ·exact h4 y hy
    ·rw[aL.1 hy,mc]
     right
     refine⟨h1.trans h3.symm,?_⟩
     have hne:t.2≠s.2:=λe2=>e (by
      obtain⟨a,b⟩:=t
      obtain⟨c,d⟩:=s
      simp only at *
      rw[h3,h1,e2])
     omega
  ·exact .inr (.inr h3)
def goA(g:GrS)(l:List ItS)(k:Nat)(s:SyS):Prop:=Nxs g l s/\(s.1=true->2<=k)/\1<=k
theorem BX.fin{g:GrS}{l:List ItS}{kb:Bool}{o:List SyS}(h:BX g l kb o)(hno:∀ t,Nxs g l t->okS kb o t=false):HK (goA g l (if kb=true then 2 else 1)) o:=by
 refine⟨h.st,λs=>⟨λhs=>?_,λhs=>?_⟩⟩
 ·obtain⟨h1,h2⟩:=h.a s hs
  refine⟨h1,λe=>?_,?_⟩
  ·rw[if_pos (h2 e)];exact ar _
  ·split <;> omega
 ·obtain⟨h1,h2,_⟩:=hs
  rcases h.al s h1 with h3|h3|h3
  ·exact h3
  ·have:=(tK h s).2 h3
   rw[hno s h1]at this;cases this
  ·have:=h2 h3.1
   rw[if_neg (by rw[h3.2];exact jC)]at this
   omega
def goS(g:GrS)(l:List ItS):Nat->List SyS
 |0=>[]
 |1=>(bN g l).filter λs=>!s.1
 |_=>bN g l
theorem LA(g:GrS)(l:List ItS)(k:Nat):HK (goA g l k) (goS g l k):=by
 have h:=oR g l
 match k with
 |0=>exact⟨.nil,λs=>⟨(λh=>by cases h),(λh=>by have:=h.2.2;omega)⟩⟩
 |1=>
  refine⟨h.st.filter _,λs=>?_⟩
  show s∈(bN g l).filter _↔_
  rw[fh,h.mem]
  unfold goA
  cases hs:s.1 <;> simp
 |k+2=>
  refine⟨h.st,λs=>?_⟩
  show s∈bN g l↔_
  rw[h.mem]
  unfold goA
  constructor
  ·intro h;exact⟨h,λ_=>by omega,by omega⟩
  ·intro h;exact h.1
theorem Dv(g:GrS)(l:List ItS)(k:Nat)(hk:k<2):BX g l (decide (k=1)) (goS g l k):=by
 have h:=LA g l k
 refine⟨h.st,λs hs=>?_,λs hs=>?_⟩
 ·obtain⟨h1,h2,h3⟩:=(h.mem s).1 hs
  refine⟨h1,λe=>?_⟩
  have:=h2 e
  omega
 ·by_cases hm:s∈goS g l k
  ·exact .inl hm
  ·right
   match k,hk with
   |0,_=>
    cases h1:s.1
    ·exact .inl ⟨rfl,λy hy=>by cases hy⟩
    ·exact .inr ⟨rfl,rfl⟩
   |1,_=>
    cases h1:s.1
    ·exact absurd ((h.mem s).2 ⟨hs,(λe=>by rw[h1]at e;cases e),by omega⟩) hm
    ·refine .inl ⟨rfl,λy hy=>?_⟩
     obtain⟨_,h3,_⟩:=(h.mem y).1 hy
     rw[mc]
     left
     refine⟨?_,h1⟩
     cases h4:y.1
     ·rfl
     ·have:=h3 h4;omega
set_option maxHeartbeats 2000000 in
theorem Su(g:GrS){l:List ItS}(hll:l.length<=100000):p87 N0 (g,(l,()))=some ((bN g l,()),()):=by
 have hsl:=lL g l
 delta p87 Ld Ap Bd Wi
 simp only[aH]
 simp only[bM,decide_eq_true_eq]
 refine bE (λk=>((),(goS g l k,((k:Int),())))) (λ_=>some ((bN g l,()),())) 2 (λk hk K hK=>?_) N0 0 (aC _) (by unfold N0;omega)
 rcases ak k 2 with hk2|hk2
 case inr=>
  have e:k=2:=by omega
  subst e
  simp only[show ¬((2:Nat):Int)<2 by omega,if_false]
  rfl
 have c:(k:Int)<2:=by omega
 have hk1:IntKind.wrap .i64 ((k:Int)+1)=((k+1:Nat):Int):=bS (by omega:k<1000) (by omega)
 have hK:=hK hk2
 obtain⟨kb,hkb⟩:∃ kb,kb=decide ((k:Int)=1):=⟨_,rfl⟩
 have UW:kb=decide (k=1):=by rw[hkb];congr 1;exact propext (by omega)
 have hgo:(if kb=true then 2 else 1)=k+1:=by
  rw[UW]
  by_cases e:k=1
  ·simp[e]
  ·have:k=0:=by omega
   simp[this]
 simp only[c,if_true,hk1,<-hkb]
 refine aZ (λm z r=>∃ (o:List SyS) (mo:Bool),z=((),(o,(mo,())))/\BX g l kb o/\(mo=false->∀ t,Nxs g l t->okS kb o t=false)/\m=hP (bN g l) (λs=>s∈o)+(if mo=true then 1 else 0)/\r=some ((bN g l,()),())) ?_ N0 (hP (bN g l) (λs=>s∈goS g l k)+1) _ _ (by
  have:=jd (bN g l) (λs=>s∈goS g l k)
  unfold N0;omega) ⟨goS g l k,true,rfl,by rw[UW];exact Dv g l k hk2,(λh=>by cases h),rfl,rfl⟩
 rintro m z r ⟨o,mo,rfl,hI,hno,rfl,rfl⟩ M hM
 have hol:o.length<=l.length:=by
  have hnd:o.Nodup:=hI.st.imp λ{a b} h e=>by subst e;rw[mf]at h;cases h
  have:=rP (λ(s:SyS) (c:Nat)=>∃ x,l[c]?=some x/\fV g x.1 x.2.1=some s) (λs t c ⟨x,h1,h2⟩ ⟨y,h3,h4⟩=>by
   rw[h1]at h3;cases h3
   rw[h2]at h4;cases h4;rfl) l.length o hnd (λs hs=>by
   obtain⟨x,hx,hn⟩:=(hI.a s hs).1
   obtain⟨i,hi,rfl⟩:=fa.1 hx
   exact⟨i,hi,_,List.getElem?_eq_getElem hi,hn⟩)
  exact this
 cases mo
 ·simp only[ap,if_false]
  have h1:=hI.fin (hno rfl)
  rw[hgo]at h1
  rw[h1.BE (LA g l (k+1))]
  exact hK
 simp only[if_true]at hM |-
 refine bE (λj=>((o,((jz g l kb o (false,0) j).1,())),((jz g l kb o (false,0) j).2,((j:Int),())))) (λ_=>some ((bN g l,()),())) l.length (λj hj L hL=>?_) N0 0 (aC _) (by unfold N0;omega)
 rcases ak j l.length with h|h
 ·have cj:(j:Int)<(l.length:Int):=by omega
  have hL:=hL h
  have hj1:IntKind.wrap .i64 ((j:Int)+1)=((j+1:Nat):Int):=bS h (by omega)
  rw[xr g l kb o (false,0) h]at hL
  simp only[cj,if_true,aJ,aa,List.getElem?_eq_getElem h,za,aB,hj1]
  generalize l[j]=x at *
  generalize jz g l kb o (false,0) j=B at *
  obtain⟨B1,B2⟩:=B
  rw[<-hL]
  clear hL hM hK
  by_cases ho:(0:Int)<((o.length:Nat):Int)
  ·have hw:IntKind.wrap .i64 ((o.length:Int)-1)=((o.length-1:Nat):Int):=by rw[bz (by omega) (by omega)];omega
   have xk:o.length-1<o.length:=by omega
   simp only[ho,if_true,hw,aJ,aa,List.getElem?_eq_getElem xk]
   unfold okS Pn
   rw[List.getElem?_eq_getElem xk]
   generalize o[o.length-1]=y
   cases hn:fV g x.1 x.2.1 with
   |none=>
    by_cases h2:(y.1 == kb)=true
    ·simp
    ·simp
   |some s=>
    simp only[aA,ap,if_false]
    cases h1:(s.1 == kb)
    ·simp
    ·by_cases h2:(y.1 == kb)=true
     ·by_cases h4:s.2<=y.2
      ·simp[h4,h2]
      ·cases B2
       ·simp[h4,h2]
       ·by_cases h3:s.2<B1.2
        ·simp[h3,h4,h2]
        ·simp[h3,h4,h2]
     ·cases B2
      ·simp[h2]
      ·by_cases h3:s.2<B1.2
       ·simp[h3,h2]
       ·simp[h3,h2]
  ·have:o=[]:=kM.1 (by omega)
   subst this
   simp only[ho,if_false]
   unfold okS Pn
   cases hn:fV g x.1 x.2.1 with
   |none=>simp
   |some s=>
    simp only[aA,ap,if_false]
    cases h1:(s.1 == kb)
    ·simp
    ·cases B2
     ·simp
     ·by_cases h3:s.2<B1.2
      ·simp[h3]
      ·simp[h3]
 ·have cj:¬(j:Int)<(l.length:Int):=by omega
  have e:j=l.length:=by omega
  subst e
  simp only[cj,if_false]
  obtain⟨s1,s2⟩:=xt g l kb o (false,0) l.length (ar _)
  have hNx:∀ t,Nxs g l t->∃ k,∃ h:k<l.length,fV g l[k].1 l[k].2.1=some t:=λt ⟨x,hx,hn⟩=>by
   obtain⟨i,hi,rfl⟩:=fa.1 hx
   exact⟨i,hi,hn⟩
  cases hB:(jz g l kb o (false,0) l.length).2
  ·simp only[ap,if_false]
   refine hM (hP (bN g l) (λs=>s∈o)) _ _ (by omega) ⟨o,false,rfl,hI,λ_ t ht=>?_,rfl,rfl⟩
   obtain⟨i,hi,hn⟩:=hNx t ht
   exact s1 hB i hi t hi hn
  ·obtain⟨b1,b2,b3⟩:=s2 hB
   simp only[if_true,aM,bD]
   rw[if_pos (by omega),if_pos (by omega)]
   have hI':=hI.more b1 b2 λt ht hok=>by
    obtain⟨i,hi,hn⟩:=hNx t ht
    exact b3 i hi t hi hn hok
   have s8:¬(jz g l kb o (false,0) l.length).1∈o:=λhm=>by
    have:=((tK hI _).1 b1).2 _ hm
    rw[mf]at this;cases this
   have hlt:=oK (U:=bN g l) (P:=λs=>s∈o) (Q:=λs=>s∈o++[(jz g l kb o (false,0) l.length).1]) (λu _ hu=>au.2 (.inl hu)) (((oR g l).mem _).2 b2) s8 (au.2 (.inr (aL.2 rfl)))
   exact hM (hP (bN g l) (λs=>s∈o++[(jz g l kb o (false,0) l.length).1])+1) _ _ (by omega) ⟨_,true,rfl,hI',(λh=>by cases h),rfl,rfl⟩
end
noncomputable section
theorem wrap_u8{n:Int}(h:0<=n):IntKind.wrap .u8 n=n % 256:=by
 simp[IntKind.wrap,IntKind.bits,IntKind.signed]
def eB(a:Int)(i:Nat):Int:=((a.toNat / 2 ^ (8*i) % 256:Nat):Int)
def vH(x:ItS):List Int:=[eB x.1 1,eB x.1 0,eB x.2.1 1,eB x.2.1 0]++(List.range 8).map (eB x.2.2)
def dj(l:List ItS):List Int:=l.flatMap vH
theorem nK(x:ItS):(vH x).length=12:=by simp[vH]
theorem HM{a b:Nat}{n:Nat}(h:∀ i,i<n->a / 2 ^ (8*i) % 256=b / 2 ^ (8*i) % 256)(ha:a<2 ^ (8*n))(hb:b<2 ^ (8*n)):a=b:=by
 induction n generalizing a b with
 |zero=>simp at ha hb;omega
 |succ n ih=>
  have h0:=h 0 (by omega)
  simp only[kY,kZ,lc]at h0
  have h1:a / 256=b / 256:=by
   have hp:(2:Nat) ^ (8*(n+1))=256*2 ^ (8*n):=by
    rw[show 8*(n+1)=8+8*n by omega,Nat.pow_add]
   refine ih (λi hi=>?_) ?_ ?_
   ·have:=h (i+1) (by omega)
    rw[show 8*(i+1)=8+8*i by omega,Nat.pow_add,<-nQ,<-nQ]at this
    exact this
   ·rw[hp]at ha
    exact(Nat.div_lt_iff_lt_mul (by omega)).2 (by rw[Nat.mul_comm];exact ha)
   ·rw[hp]at hb
    exact(Nat.div_lt_iff_lt_mul (by omega)).2 (by rw[Nat.mul_comm];exact hb)
  omega
theorem LB{x y:ItS}(hx:jc x)(hy:jc y)(rx:0<=x.1/\x.1<=12/\0<=x.2.1/\x.2.1<=20)(ry:0<=y.1/\y.1<=12/\0<=y.2.1/\y.2.1<=20)(h:vH x=vH y):x=y:=by
 obtain⟨x1,x2,x3⟩:=x
 obtain⟨y1,y2,y3⟩:=y
 unfold vH at h
 have e64:(2:Nat) ^ (8*8)=18446744073709551616:=by decide
 obtain⟨h1,h2⟩:=kS h (by simp)
 simp only[eG,and_true]at h1
 obtain⟨_,a1,_,a2⟩:=h1
 have b1:eB x1 0=x1:=by unfold eB;simp only[kY,kZ,lc];simp only at rx;omega
 have b2:eB y1 0=y1:=by unfold eB;simp only[kY,kZ,lc];simp only at ry;omega
 have b3:eB x2 0=x2:=by unfold eB;simp only[kY,kZ,lc];simp only at rx;omega
 have b4:eB y2 0=y2:=by unfold eB;simp only[kY,kZ,lc];simp only at ry;omega
 simp only at a1 a2 h2
 rw[b1,b2]at a1
 rw[b3,b4]at a2
 have hk:∀ i,i<8->x3.toNat / 2 ^ (8*i) % 256=y3.toNat / 2 ^ (8*i) % 256:=λi hi=>by
  have:=congrArg (λl=>l[i]?) h2
  simp only[List.getElem?_map,List.getElem?_range hi,cT,bn]at this
  unfold eB at this
  omega
 unfold jc at hx hy
 simp only at hx hy
 have:=HM (a:=x3.toNat) (b:=y3.toNat) (n:=8) hk (by rw[e64];omega) (by rw[e64];omega)
 rw[a1,a2,show x3=y3 by omega]
theorem nF:∀ {l m:List ItS},OkI l->OkI m->dj l=dj m->l=m
 |[],[],_,_,_=>rfl
 |[],y::m,_,_,h=>by
  have:=congrArg List.length h
  simp only[dj,jD,q8,aj,nK,bD]at this
  omega
 |x::l,[],_,_,h=>by
  have:=congrArg List.length h
  simp only[dj,jD,q8,aj,nK,bD]at this
  omega
 |x::l,y::m,hl,hm,h=>by
  have h:vH x++dj l=vH y++dj m:=by simpa [dj]using h
  obtain⟨h1,h2⟩:=kS h (by rw[nK,nK])
  have e:=LB (hl.bd x bm) (hm.bd y bm) (hl.rg x bm) (hm.rg y bm) h1
  have:=nF (l:=l) (m:=m) ⟨λz hz=>hl.bd z (bw _ hz),λz hz=>hl.rg z (bw _ hz)⟩ ⟨λz hz=>hm.bd z (bw _ hz),λz hz=>hm.rg z (bw _ hz)⟩ h2
  rw[e,this]
theorem HN(l:List ItS){j:Nat}(h:j<l.length):dj (l.take (j+1))=dj (l.take j)++vH l[j]:=by
 unfold dj
 rw[cM _ _ h,gD]
 simp
theorem lH(l:List ItS):(dj l).length=l.length*12:=by
 induction l with
 |nil=>rfl
 |cons x l ih=>
  show(vH x++dj l).length=_
  rw[aj,nK,ih,aM]
  omega
theorem qE{a:Int}(h:0<=a)(i:Nat):IntKind.wrap .u8 (Int.fdiv a (2 ^ (8*i)))=eB a i:=by
 obtain⟨A,rfl⟩:∃ A:Nat,a=(A:Int):=⟨a.toNat,by omega⟩
 have e:((2:Int) ^ (8*i))=((2 ^ (8*i):Nat):Int):=by simp
 rw[e,nM _ (aJ _),<-Int.natCast_ediv,wrap_u8 (aJ _)]
 unfold eB
 rw[aa]
 omega
set_option maxHeartbeats 1000000 in
theorem Sv{l:List ItS}(hl:OkI l)(hll:l.length<=100000):p46 N0 (l,())=some ((dj l,()),()):=by
 delta p46 Ld Ap Bd Wi
 have hw:IntKind.wrap .i64 (12*(l.length:Int))=((12*l.length:Nat):Int):=by rw[bz (by omega) (by omega)];simp
 simp only[aH]
 simp only[bM,decide_eq_true_eq,hw]
 rw[if_pos ⟨by omega,by omega⟩,if_pos (by omega)]
 refine bE (λj=>((),(dj (l.take j),((j:Int),())))) (λ_=>some ((dj l,()),())) l.length (λj hj K hK=>?_) N0 0 (aC _) (by unfold N0;omega)
 rcases ak j l.length with h|h
 ·have c:(j:Int)<(l.length:Int):=by omega
  have hK:=hK h
  have hj1:IntKind.wrap .i64 ((j:Int)+1)=((j+1:Nat):Int):=bS h (by omega)
  have hkl:=lH (l.take j)
  rw[aN]at hkl
  rw[HN l h]at hK
  have hx:=hl.bd _ (ba h)
  have hr:=hl.rg _ (ba h)
  simp only[c,if_true,aJ,aa,List.getElem?_eq_getElem h,hj1]
  generalize l[j]=x at *
  generalize dj (l.take j)=out at *
  have hm8:Nat.min (Int.toNat 8) (IntKind.bits .i64)=8*1:=by decide
  have f1:IntKind.wrap .u8 x.1=eB x.1 0:=by
   rw[<-qE hr.1 0];simp
  have f2:IntKind.wrap .u8 x.2.1=eB x.2.1 0:=by
   rw[<-qE hr.2.2.1 0];simp
  simp only[show ¬(8:Int)<0 by omega,if_false,hm8,qE hr.1,qE hr.2.2.1,f1,f2,aM,bD]
  rw[if_pos (by omega),if_pos (by omega)]
  rw[<-hK]
  unfold vH
  have hol:(out++[eB x.1 1,eB x.1 0,eB x.2.1 1,eB x.2.1 0]).length=out.length+4:=by simp
  rw[<-aO]
  generalize out++[eB x.1 1,eB x.1 0,eB x.2.1 1,eB x.2.1 0]=o2 at *
  refine bE (λi=>((),(BT o2 ((List.range i).map (eB x.2.2)),((i:Int),())))) (λ_=>K ((),(o2++(List.range 8).map (eB x.2.2),(((j+1:Nat):Int),())))) 8 (λi hi L hL=>?_) N0 0 (aC _) (by unfold N0;omega)
  simp only[oP]at hL |-
  rcases ak i 8 with hi8|hi8
  ·have ci:(i:Int)<8:=by omega
   have hL:=hL hi8
   have hi1:IntKind.wrap .i64 ((i:Int)+1)=((i+1:Nat):Int):=bS (by omega:i<1000) (by omega)
   have g1:IntKind.wrap .u64 (IntKind.wrap .i64 (8*(i:Int)))=((8*i:Nat):Int):=by
    rw[bz (by omega) (by omega),wrap_u64 ⟨by omega,by omega⟩];simp
   have g2:Nat.min (8*i) (IntKind.bits .u64)=8*i:=cS (by show 8*i<=64;omega)
   simp only[ci,if_true,g1,show ¬((8*i:Nat):Int)<0 by omega,if_false,aa,g2,qE hx.1,hi1,aj,bJ,kR,aM,bD]
   rw[if_pos (by omega),if_pos (by omega)]
   rw[gG,dO,<-aO]at hL
   exact hL
  ·have ci:¬(i:Int)<8:=by omega
   have e:i=8:=by omega
   subst e
   simp only[ci,if_false]
 ·have c:¬(j:Int)<(l.length:Int):=by omega
  simp only[c,if_false]
  rw[bP h]
def dA(l:List ItS):List (List ItS)->Nat
 |[]=>0
 |x::r=>if x=l then 0 else dA l r+1
theorem Fl(l:List ItS):∀ r,dA l r<=r.length
 |[]=>ar _
 |x::r=>by
  have:=Fl l r
  unfold dA
  split
  ·omega
  ·rw[aM];omega
theorem qF{l:List ItS}:∀ {r:List (List ItS)},dA l r<r.length↔l∈r
 |[]=>by simp[dA]
 |x::r=>by
  have:=qF (l:=l) (r:=r)
  unfold dA
  split
  ·rename_i e;subst e;simp
  ·rename_i e
   have e':¬l=x:=λh=>e h.symm
   rw[aM,ay]
   simp only[e',false_or,<-this]
   omega
theorem vI{l:List ItS}:∀ {r:List (List ItS)} (h:dA l r<r.length),r[dA l r]=l
 |[],h=>by simp at h
 |x::r,h=>by
  have:=vI (l:=l) (r:=r)
  unfold dA at h
  by_cases e:x=l
  ·have h0:dA l (x::r)=0:=by unfold dA;rw[if_pos e]
   simp only[h0,List.getElem_cons_zero];exact e
  ·have h0:dA l (x::r)=dA l r+1:=by rw[dA,if_neg e]
   rw[if_neg e]at h
   simp only[h0,List.getElem_cons_succ]
   exact this (by rw[aM]at h;omega)
theorem zj{l:List ItS}:∀ {r:List (List ItS)},¬l∈r->dA l r=r.length
 |[],_=>rfl
 |x::r,h=>by
  have h1:¬x=l:=λe=>h (by rw[e];exact bm)
  rw[dA,if_neg h1,zj (λhm=>h (bw _ hm)),aM]
theorem vJ{l:List ItS}:∀ {r:List (List ItS)} (k:Nat) (h:k<r.length),k<dA l r->r[k]≠l
 |[],k,h,_=>by simp at h
 |x::r,k,h,hk=>by
  unfold dA at hk
  split at hk
  ·omega
  ·rename_i e
   cases k with
   |zero=>exact e
   |succ k=>exact vJ k (by simpa using h) (by omega)
theorem BY{l:List ItS}:∀ {r s:List (List ItS)},l∈r->dA l (r++s)=dA l r
 |[],s,h=>by cases h
 |x::r,s,h=>by
  show dA l (x::(r++s))=_
  unfold dA
  split
  ·rfl
  ·rename_i e
   rw[BY (r:=r) (s:=s)]
   rcases ay.1 h with h|h
   ·exact absurd h.symm e
   ·exact h
def jh(items:List (List ItS))(l:List ItS):List (List ItS):=if l∈items then items else items++[l]
abbrev KMs:=List (List Int×Int)
def eqL(a b:List Int):Bool:=decide (a=b)
theorem xu(k k':List Int)(v:Int):∀ x:KMs,e7 eqL k (eW eqL k' v x)=(decide (k=k')||e7 eqL k x)
 |[]=>by
  unfold eW e7 eqL
  by_cases h:k=k'
  ·simp[h]
  ·simp[h,e7]
 |p::r=>by
  have ih:=xu k k' v r
  unfold eW
  by_cases h1:k'=p.1
  ·have e:eqL k' p.1=true:=by unfold eqL;simp[h1]
   rw[e,cond_true]
   unfold e7
   by_cases h:k=k'
   ·simp[eqL,h]
   ·have:¬k=p.1:=λe=>h (e.trans h1.symm)
    simp[eqL,h,this]
  ·have e:eqL k' p.1=false:=by unfold eqL;simp[h1]
   rw[e,cond_false]
   unfold e7
   rw[ih]
   by_cases h:k=p.1
   ·simp[eqL,h]
   ·simp[eqL,h]
theorem xv(k k':List Int)(v:Int):∀ x:KMs,cY eqL k (eW eqL k' v x)=if k=k' then v else cY eqL k x
 |[]=>by
  unfold eW cY eqL
  by_cases h:k=k'
  ·simp[h]
  ·simp[h,cY]
 |p::r=>by
  have ih:=xv k k' v r
  unfold eW
  by_cases h1:k'=p.1
  ·have e:eqL k' p.1=true:=by unfold eqL;simp[h1]
   rw[e,cond_true]
   unfold cY
   by_cases h:k=k'
   ·simp[eqL,h]
   ·have:¬k=p.1:=λe=>h (e.trans h1.symm)
    simp[eqL,h,this]
  ·have e:eqL k' p.1=false:=by unfold eqL;simp[h1]
   rw[e,cond_false]
   unfold cY
   rw[ih]
   by_cases h:k=p.1
   ·have:¬k=k':=λe=>h1 (e.symm.trans h)
    simp[eqL,h,this]
    intro e;exact absurd e (λe=>h1 e.symm)
   ·simp[eqL,h]
structure qG(seen:KMs)(items:List (List ItS)):Prop where
 ok:∀ l∈items,OkI l
 has:∀ l,OkI l->(e7 eqL (dj l) seen=true↔l∈items)
 get:∀ l∈items,cY eqL (dj l) seen=(dA l items:Int)
theorem HO:qG [] []:=⟨(λl h=>by cases h),(λl _=>⟨(λh=>by cases h),(λh=>by cases h)⟩),(λl h=>by cases h)⟩
theorem qG.put{seen:KMs}{items:List (List ItS)}(h:qG seen items){l:List ItS}(hl:OkI l)(hn:¬l∈items):qG (eW eqL (dj l) (items.length:Int) seen) (items++[l]):=by
 refine⟨λm hm=>?_,λm hm=>?_,λm hm=>?_⟩
 ·rcases au.1 hm with hm|hm
  ·exact h.ok m hm
  ·rw[aL.1 hm];exact hl
 ·rw[xu,aG,decide_eq_true_eq,h.has m hm,au,aL]
  constructor
  ·rintro(e|e)
   ·exact .inr (nF hm hl e)
   ·exact .inl e
  ·rintro(e|e)
   ·exact .inr e
   ·exact .inl (by rw[e])
 ·rw[xv]
  rcases au.1 hm with hm|hm
  ·have:¬dj m=dj l:=λe=>hn (by rw[<-nF (h.ok m hm) hl e];exact hm)
   rw[if_neg this,h.get m hm,BY hm]
  ·rw[aL.1 hm,if_pos rfl]
   have key:∀ (r:List (List ItS)),¬l∈r->dA l (r++[l])=r.length:=by
    intro r
    induction r with
    |nil=>intro _;simp[dA]
    |cons x r ih=>
     intro hx
     have h1:¬x=l:=λe=>hx (by rw[e];exact bm)
     show dA l (x::(r++[l]))=_
     rw[dA,if_neg h1,ih (λhm=>hx (bw _ hm)),aM]
   rw[key items hn]
theorem LC{seen:KMs}{items:List (List ItS)}(h:qG seen items)(hil:items.length<=100000){l:List ItS}(hl:OkI l)(hll:l.length<=100000)(mv:List (List (SyS×Int))):
 ∃ P3,p45 N0 (l,(seen,((items,mv),())))=some ((((dA l items:Nat):Int),()),(P3,((jh items l,mv),())))/\qG P3 (jh items l):=by
 have hb:∀ k x,e7 (λv6 v7=>decide (v6=v7)) k x=e7 eqL k (x:KMs):=λk x=>rfl
 delta p45 Ap
 simp only[aH,bM,Sv hl hll,aB,aM,bD]
 by_cases hm:l∈items
 ·have hh:=(h.has l hl).2 hm
  refine⟨seen,?_,?_⟩
  ·have hg:cY (λv6 v7=>decide (v6=v7)) (dj l) seen=(dA l items:Int):=h.get l hm
   rw[if_neg (by rw[hb,hh];simp),hg]
   unfold jh
   rw[if_pos hm]
  ·unfold jh;rw[if_pos hm];exact h
 ·have hh:e7 eqL (dj l) seen=false:=by
   cases hq:e7 eqL (dj l) seen
   ·rfl
   ·exact absurd ((h.has l hl).1 hq) hm
  refine⟨eW eqL (dj l) (items.length:Int) seen,?_,?_⟩
  ·rw[if_pos (by rw[hb,hh];rfl),if_pos (by omega),if_pos (by omega),zj hm]
   unfold jh
   rw[if_neg hm]
   rfl
  ·unfold jh;rw[if_neg hm];exact h.put hl hm
end
noncomputable section
theorem Fm{A R:Type}{body:A->(A->Option R)->Option R}(I:Nat->A->(Option R->Prop)->Prop)
 (step:∀ m x Q,I m x Q->∀ k,(∀ m' y Q',m' < m->I m' y Q'->Q' (k y))->Q (body x k)):∀ n m x Q,m<n->I m x Q->Q (aD body n x):=by
 intro n
 induction n with
 |zero=>intro m x Q h;omega
 |succ n ih=>
  intro m x Q h hi
  rw[dU]
  exact step m x Q hi _ (λm' y Q' hm hi'=>ih m' y Q' (by omega) hi')
def tgt(g:GrS)(l:List ItS)(s:SyS):List ItS:=eP g (fy (goL g s l))
abbrev StB:=List (List ItS)×(List (List SyS)×List (List Int))
def cR(g:GrS)(l:List ItS)(items:List (List ItS)):Nat->List (List ItS)×List Int
 |0=>(items,[])
 |k+1=>match(bN g l)[k]? with
  |some s=>(jh (cR g l items k).1 (tgt g l s),(cR g l items k).2++[(dA (tgt g l s) (cR g l items k).1:Int)])
  |none=>cR g l items k
theorem sr(g:GrS)(l:List ItS)(items:List (List ItS)){k:Nat}(h:k<(bN g l).length):cR g l items (k+1)=
 (jh (cR g l items k).1 (tgt g l (bN g l)[k]),(cR g l items k).2++[(dA (tgt g l (bN g l)[k]) (cR g l items k).1:Int)]):=by
 rw[cR,List.getElem?_eq_getElem h]
def ft(g:GrS)(i:Nat)(s:StB):StB:=match s.1[i]? with
 |some l=>((cR g l s.1 (bN g l).length).1,(s.2.1++[bN g l],s.2.2++[(cR g l s.1 (bN g l).length).2]))
 |none=>s
def bfs(g:GrS):Nat->Nat->StB->Option StB
 |0,_,_=>none
 |m+1,i,s=>if s.1.length<=i then some s else if 60<s.1.length then none else bfs g m (i+1) (ft g i s)
theorem BZ(items:List (List ItS))(l:List ItS):∃ e,jh items l=items++e/\e.length<=1:=by
 unfold jh
 split
 ·exact⟨[],by simp,by simp⟩
 ·exact⟨[l],rfl,by simp⟩
theorem LD(items:List (List ItS))(l:List ItS):(jh items l)[dA l items]?=some l:=by
 unfold jh
 split
 ·rename_i h
  have hlt:=qF.2 h
  rw[List.getElem?_eq_getElem hlt,vI hlt]
 ·rename_i h
  rw[zj h,List.getElem?_append_right (ar _)]
  simp
theorem nL(g:GrS)(l:List ItS)(items:List (List ItS)):∀ k,∃ e,(cR g l items k).1=items++e/\e.length<=k
 |0=>⟨[],by simp[cR],by simp⟩
 |k+1=>by
  obtain⟨e,h1,h2⟩:=nL g l items k
  unfold cR
  split
  ·rename_i s hs
   obtain⟨e',h3,h4⟩:=BZ (cR g l items k).1 (tgt g l s)
   refine⟨e++e',?_,?_⟩
   ·show jh (cR g l items k).1 _=_
    rw[h3,h1,aO]
   ·rw[aj];omega
  ·exact⟨e,h1,by omega⟩
theorem tL(g:GrS)(l:List ItS)(items:List (List ItS)):∀ k,k<=(bN g l).length->(cR g l items k).2.length=k/\∀ j s,j<k->(bN g l)[j]?=some s->∃ t:Nat,(cR g l items k).2[j]?=some (t:Int)/\(cR g l items k).1[t]?=some (tgt g l s)
 |0,_=>⟨rfl,λj s h=>by omega⟩
 |k+1,hk=>by
  obtain⟨h1,h2⟩:=tL g l items k (by omega)
  have hkl:k<(bN g l).length:=by omega
  rw[sr g l items hkl]
  refine⟨by simp[h1],λj s hj hs=>?_⟩
  obtain⟨e,h3,_⟩:=BZ (cR g l items k).1 (tgt g l (bN g l)[k])
  by_cases hjk:j=k
  ·subst hjk
   rw[List.getElem?_eq_getElem hkl]at hs
   cases hs
   refine⟨_,?_,LD _ _⟩
   rw[List.getElem?_append_right (by omega),h1]
   simp
  ·obtain⟨t,h4,h5⟩:=h2 j s (by omega) hs
   refine⟨t,?_,?_⟩
   ·rw[List.getElem?_append_left (by omega)];exact h4
   ·show(jh (cR g l items k).1 _)[t]?=_
    rw[h3,List.getElem?_append_left (List.getElem?_eq_some_iff.1 h5).1];exact h5
def OkL(items:List (List ItS)):Prop:=∀ l∈items,OkI l/\l.length<=273
theorem Dw{g:GrS}(hg:Gs g){l:List ItS}(h:OkI l)(s:SyS):OkI (tgt g l s)/\(tgt g l s).length<=273:=by
 have h1:=tJ (sk hg s h)
 exact⟨sg hg h1,lK (fI hg h1) λ_ _ _ ha=>ClG.inU hg h1 ha⟩
theorem Fo{g:GrS}(hg:Gs g){l:List ItS}(hl:l.length<=273)(s:SyS):(fy (goL g s l)).length<=273:=by
 have h1:=BN (goL g s l)
 have h2:=oQ g s l
 omega
theorem zk{g:GrS}(hg:Gs g){l:List ItS}(hl:OkI l){items:List (List ItS)}(h:OkL items):∀ k,OkL (cR g l items k).1
 |0=>h
 |k+1=>by
  have ih:=zk hg hl h k
  unfold cR
  split
  ·rename_i s _
   intro m hm
   change m∈jh (cR g l items k).1 (tgt g l s)at hm
   unfold jh at hm
   split at hm
   ·exact ih m hm
   ·rcases au.1 hm with hm|hm
    ·exact ih m hm
    ·rw[aL.1 hm];exact Dw hg hl s
  ·exact ih
structure OkB(g:GrS)(i:Nat)(s:StB):Prop where
 it:OkL s.1
 l1:s.2.1.length=i
 l2:s.2.2.length=i
 le:i<=s.1.length
 mx:s.1.length<=400
 row:∀ j,j<i->∃ l,s.1[j]?=some l/\s.2.1[j]?=some (bN g l)/\∃ to,s.2.2[j]?=some to/\to.length=(bN g l).length/\∀ (k:Nat) (y:SyS),(bN g l)[k]?=some y->∃ t:Nat,to[k]?=some (t:Int)/\s.1[t]?=some (tgt g l y)
theorem OkB.step{g:GrS}(hg:Gs g){i:Nat}{s:StB}(h:OkB g i s)(hi:i<s.1.length)(h60:s.1.length<=60):OkB g (i+1) (ft g i s):=by
 have hs:ft g i s=((cR g s.1[i] s.1 (bN g s.1[i]).length).1,(s.2.1++[bN g s.1[i]],s.2.2++[(cR g s.1[i] s.1 (bN g s.1[i]).length).2])):=by
  unfold ft;rw[List.getElem?_eq_getElem hi]
 have hl:=h.it _ (ba hi)
 obtain⟨e,he,hel⟩:=nL g s.1[i] s.1 (bN g s.1[i]).length
 have hsl:=lL g s.1[i]
 have hto:=tL g s.1[i] s.1 (bN g s.1[i]).length (ar _)
 rw[hs]
 have pj:∀ (t:Nat) m,s.1[t]?=some m->(cR g s.1[i] s.1 (bN g s.1[i]).length).1[t]?=some m:=λt m hm=>by
  rw[he,List.getElem?_append_left (List.getElem?_eq_some_iff.1 hm).1];exact hm
 refine⟨zk hg hl.1 h.it _,by simp[h.l1],by simp[h.l2],?_,?_,λj hj=>?_⟩
 ·show i+1<=(cR g s.1[i] s.1 (bN g s.1[i]).length).1.length
  rw[he,aj];omega
 ·show(cR g s.1[i] s.1 (bN g s.1[i]).length).1.length<=400
  rw[he,aj];omega
 ·by_cases e':j=i
  ·subst e'
   refine⟨s.1[j],pj _ _ (List.getElem?_eq_getElem hi),?_,(cR g s.1[j] s.1 (bN g s.1[j]).length).2,?_,hto.1,λk y hy=>hto.2 k y (List.getElem?_eq_some_iff.1 hy).1 hy⟩
   ·show(s.2.1++[bN g s.1[j]])[j]?=_
    rw[List.getElem?_append_right (by rw[h.l1];exact ar _),h.l1];simp
   ·show(s.2.2++[_])[j]?=_
    rw[List.getElem?_append_right (by rw[h.l2];exact ar _),h.l2];simp
  ·obtain⟨l,r1,r2,to,r3,r4,r5⟩:=h.row j (by omega)
   refine⟨l,pj _ _ r1,?_,to,?_,r4,λk y hy=>?_⟩
   ·show(s.2.1++[_])[j]?=_
    rw[List.getElem?_append_left (by rw[h.l1];omega)];exact r2
   ·show(s.2.2++[_])[j]?=_
    rw[List.getElem?_append_left (by rw[h.l2];omega)];exact r3
   ·obtain⟨t,r6,r7⟩:=r5 k y hy
    exact⟨t,r6,pj _ _ r7⟩
def st0(g:GrS):StB:=([eP g (mz g)],([],[]))
theorem Dx{g:GrS}(hg:Gs g):OkB g 0 (st0 g):=by
 have h1:=sj hg
 refine⟨λl hl=>?_,rfl,rfl,aC _,by simp[st0],λj hj=>by omega⟩
 rw[aL.1 hl]
 exact⟨sg hg h1,lK (fI hg h1) λ_ _ _ ha=>ClG.inU hg h1 ha⟩
theorem LF{g:GrS}(hg:Gs g):∀ (m i:Nat) (s s':StB),OkB g i s->bfs g m i s=some s'->OkB g s'.1.length s'/\∃ e,s'.1=s.1++e
 |0,i,s,s',_,h=>by cases h
 |m+1,i,s,s',hs,h=>by
  rw[bfs]at h
  split at h
  ·rename_i hle
   cases h
   have:=hs.le
   have e:s.1.length=i:=by omega
   rw[e]
   exact⟨hs,[],by simp⟩
  ·rename_i hle
   split at h
   ·cases h
   ·rename_i h60
    obtain⟨r1,e2,r2⟩:=LF hg m (i+1) (ft g i s) s' (hs.step hg (by omega) (by omega)) h
    refine⟨r1,?_⟩
    have hi:i<s.1.length:=by omega
    have hst:(ft g i s).1=(cR g s.1[i] s.1 (bN g s.1[i]).length).1:=by unfold ft;rw[List.getElem?_eq_getElem hi]
    obtain⟨e,he,_⟩:=nL g s.1[i] s.1 (bN g s.1[i]).length
    exact⟨e++e2,by rw[r2,hst,he,aO]⟩
set_option maxHeartbeats 4000000 in
theorem Po{g:GrS}(hg:Gs g):∃ out ok,p42 N0 (g,(60,()))=some ((out,(ok,())),())/\(ok=true->bfs g 62 0 (st0 g)=some out):=by
 have h0:=sj hg
 delta p42 Ld Ap Bd Wi
 simp only[aH]
 simp only[bM,decide_eq_true_eq]
 rw[ae (Sk g)]
 simp only
 rw[ae (Lt hg h0 (by simp[mz]))]
 simp only
 refine Fm (λm z Q=>∃ (i:Nat) (s:StB),z=((([],([],[])),(s,())),((i:Int),()))/\OkB g i s/\i+m=62/\i<=61/\Q=λr=>∃ out ok,r=some ((out,(ok,())),())/\(ok=true->bfs g m i s=some out)) ?_ N0 62 _ _ (by unfold N0;omega) ⟨0,st0 g,rfl,Dx hg,rfl,by omega,rfl⟩
 rintro m z Q ⟨i,s,rfl,hs,him,Ym,rfl⟩ K hK
 obtain⟨m,rfl⟩:∃ m',m=m' + 1:=⟨m-1,by omega⟩
 have hmx:=hs.mx
 rcases ak i s.1.length with hi|hi
 case inr=>
  have c:¬(i:Int)<(s.1.length:Int):=by omega
  simp only[c,if_false]
  exact⟨s,true,rfl,λ_=>by rw[bfs,if_pos hi]⟩
 have c:(i:Int)<(s.1.length:Int):=by omega
 simp only[c,if_true]
 by_cases h60:60<s.1.length
 ·have c2:(60:Int)<(s.1.length:Int):=by omega
  rw[if_pos c2]
  exact⟨s,false,rfl,λh=>by cases h⟩
 have c2:¬(60:Int)<(s.1.length:Int):=by omega
 rw[if_neg c2]
 have hi1:IntKind.wrap .i64 ((i:Int)+1)=((i+1:Nat):Int):=bS hi (by omega)
 have hl:=hs.it _ (ba hi)
 have hst:ft g i s=((cR g s.1[i] s.1 (bN g s.1[i]).length).1,(s.2.1++[bN g s.1[i]],s.2.2++[(cR g s.1[i] s.1 (bN g s.1[i]).length).2])):=by
  unfold ft;rw[List.getElem?_eq_getElem hi]
 have UX:bfs g (m+1) i s=bfs g m (i+1) (ft g i s):=by rw[bfs,if_neg (by omega),if_neg h60]
 have wX:=hK m ((([],([],[])),(ft g i s,())),(((i+1:Nat):Int),())) (λr=>∃ out ok,r=some ((out,(ok,())),())/\(ok=true->bfs g m (i+1) (ft g i s)=some out)) (by omega) ⟨i+1,ft g i s,rfl,hs.step hg hi (by omega),by omega,by omega,rfl⟩
 simp only[UX]
 rw[hst]at wX |-
 have B0:s.1[i]?=some s.1[i]:=List.getElem?_eq_getElem hi
 have hl1:=hs.l1
 have hl2:=hs.l2
 have LG:=hs.it
 clear hK UX hs
 simp only[aJ,if_true,aa,B0,hi1]
 generalize s.1[i]=l at *
 rw[ae (Su g (by omega:l.length<=100000))]
 simp only
 have hsl:=lL g l
 obtain⟨out,ok,hn1,hn2⟩:=wX
 refine⟨out,ok,Eq.trans ?_ hn1,hn2⟩
 refine bE (λk=>((([],([],[])),(((cR g l s.1 k).1,(s.2.1,s.2.2)),())),((cR g l s.1 k).2,((k:Int),())))) (λ_=>K ((([],([],[])),(((cR g l s.1 (bN g l).length).1,(s.2.1++[bN g l],s.2.2++[(cR g l s.1 (bN g l).length).2])),())),(((i+1:Nat):Int),()))) (bN g l).length (λk hk L hL=>?_) N0 0 (aC _) (by unfold N0;omega)
 have hto:=tL g l s.1 k hk
 rcases ak k (bN g l).length with hkl|hkl
 ·have ck:(k:Int)<((bN g l).length:Int):=by omega
  have hL:=hL hkl
  have hk1:IntKind.wrap .i64 ((k:Int)+1)=((k+1:Nat):Int):=bS hkl (by omega)
  obtain⟨e,he,hel⟩:=nL g l s.1 k
  have hgi:(cR g l s.1 k).1[i]?=some l:=by rw[he,List.getElem?_append_left hi];exact B0
  have hrl:(cR g l s.1 k).1.length<=1000:=by rw[he,aj];omega
  rw[sr g l s.1 hkl]at hL
  simp only[ck,if_true,aJ,aa,hgi,List.getElem?_eq_getElem hkl]
  generalize (bN g l)[k]=y at *
  rw[ae (Sn hg y hl.1 (by omega))]
  simp only
  rw[ae (Lt hg (tJ (sk hg y hl.1)) (by have:=Fo hg hl.2 y;omega))]
  simp only
  have htl:=(Dw hg hl.1 y).2
  have hro:=zk hg hl.1 LG k
  have hT:eP g (fy (goL g y l))=tgt g l y:=rfl
  rw[hT]
  have Yn:=hto.1
  generalize tgt g l y=T at *
  generalize (cR g l s.1 k).1=R at *
  generalize (cR g l s.1 k).2=TO at *
  have hfl:=Fl T R
  refine bE (λn=>((([],([],[])),((R,(s.2.1,s.2.2)),(TO,()))),((if dA T R<n then(dA T R:Int)else -1),((n:Int),())))) (λ_=>K ((([],([],[])),(((cR g l s.1 (bN g l).length).1,(s.2.1++[bN g l],s.2.2++[(cR g l s.1 (bN g l).length).2])),())),(((i+1:Nat):Int),()))) (if dA T R<R.length then dA T R+1 else R.length) (λj hj M hM=>?_) N0 0 (aC _) (by split <;> (unfold N0;omega))
  rcases ak j (if dA T R<R.length then dA T R+1 else R.length)with hjl|hjl
  ·have hM:=hM hjl
   have hjR:j<R.length:=by
    split at hjl <;> omega
   have hjf:¬dA T R<j:=by
    split at hjl <;> omega
   have cj:(j:Int)<(R.length:Int):=by omega
   have hj1:IntKind.wrap .i64 ((j:Int)+1)=((j+1:Nat):Int):=bS hjR (by omega)
   have hRj:=(hro _ (ba hjR)).2
   simp only[cj,if_true,hjf,if_false,show(-1:Int)<0 by omega,decide_true,aJ,aa,List.getElem?_eq_getElem hjR,hj1]
   rw[ae (Lr (by omega:R[j].length<=1000000))]
   simp only[decide_eq_true_eq]
   rw[<-hM]
   by_cases he:R[j]=T
   ·have hf:dA T R=j:=by
     rcases ak j (dA T R)with h|h
     ·exact absurd he (vJ j hjR h)
     ·omega
    rw[if_pos he,if_pos (by omega),hf]
   ·have hf:¬dA T R<j+1:=λh=>by
     have e2:dA T R=j:=by omega
     have:=vI (l:=T) (r:=R) (by omega)
     simp only[e2]at this
     exact he this
    rw[if_neg he,if_neg hf]
  ·have hje:j=(if dA T R<R.length then dA T R+1 else R.length):=by omega
   by_cases hin:dA T R<R.length
   ·rw[if_pos hin]at hje
    have iZ:=qF.1 hin
    have Cx:jh R T=R:=by unfold jh;rw[if_pos iZ]
    rw[Cx]at hL
    have hf:dA T R<j:=by omega
    have HI:¬((dA T R:Nat):Int)<0:=by omega
    simp only[hf,if_true,HI,decide_false,ap,if_false,aM,bD,hk1]
    have yu:(if(TO.length+(0+1))*8<=140737488355328 then(if TO.length+(0+1)<=9223372036854775807 then L ((([],([],[])),((R,(s.2.1,s.2.2)),())),(TO++[((dA T R:Nat):Int)],(((k+1:Nat):Int),())))else none)else none)=K ((([],([],[])),(((cR g l s.1 (bN g l).length).1,(s.2.1++[bN g l],s.2.2++[(cR g l s.1 (bN g l).length).2])),())),(((i+1:Nat):Int),())):=by
     rw[if_pos (by omega),if_pos (by omega)];exact hL
    split
    ·exact yu
    ·exact yu
   ·rw[if_neg hin]at hje
    have hfe:dA T R=R.length:=by omega
    have iZ:¬T∈R:=λh=>hin (qF.2 h)
    have Cx:jh R T=R++[T]:=by unfold jh;rw[if_neg iZ]
    rw[Cx,hfe]at hL
    have hf:¬dA T R<j:=by omega
    have cj:¬(j:Int)<(R.length:Int):=by omega
    simp only[cj,hf,if_false,ap,show(-1:Int)<0 by omega,if_true,aM,bD,hk1]
    rw[if_pos (by omega),if_pos (by omega),if_pos (by omega),if_pos (by omega)]
    exact hL
 ·have ck:¬(k:Int)<((bN g l).length:Int):=by omega
  have e:k=(bN g l).length:=by omega
  subst e
  simp only[ck,if_false,aM,bD]
  rw[if_pos (by omega),if_pos (by omega),if_pos (by omega),if_pos (by omega)]
end
noncomputable section
def mvR(LH:List (List SyS))(tos:List (List Int)):List (List (SyS×Int)):=List.zipWith (λa b=>a.zip b) LH tos
theorem LI{LH:List (List SyS)}{tos:List (List Int)}(h:LH.length=tos.length)(a:List SyS)(b:List Int):mvR (LH++[a]) (tos++[b])=mvR LH tos++[a.zip b]:=by
 unfold mvR
 rw[List.zipWith_append h]
 rfl
theorem LJ{a:List SyS}{b:List Int}(h:a.length=b.length)(x:SyS)(y:Int):(a++[x]).zip (b++[y])=a.zip b++[(x,y)]:=by
 rw[List.zip_append h]
 rfl
theorem Dy{g:GrS}(hg:Gs g){l:List ItS}(h:OkI l):(eP g l).length<=273:=lK (fI hg h) λ_ _ _ ha=>ClG.inU hg h ha
set_option maxHeartbeats 4000000 in
theorem Sw{g:GrS}(hg:Gs g){a b:Int}(h31:p43 N0 (g,())=some (((0,(a,b)),()),())){s':StB}(hb:bfs g 62 0 (st0 g)=some s'):
 p12 N0 (g,())=some (((s'.1,mvR s'.2.1 s'.2.2),(0,())),()):=by
 have h0:=sj hg
 have h0l:(mz g).length<=100000:=by simp[mz]
 delta p12 Ld Ap Bd Wi
 simp only
 rw[ae h31]
 simp only
 rw[decide_true,aA,cond_false,ae (R9 hg)]
 simp only
 rw[ae (Sj g)]
 simp only
 rw[ae (Ly hg h0 h0l)]
 simp only
 obtain⟨UY,h45,LK⟩:=LC HO (by simp) (sg hg h0) (by have:=Dy hg h0;omega) []
 rw[ae h45]
 simp only[aH]
 simp only[bM,decide_eq_true_eq]
 have UZ:jh [] (eP g (mz g))=[eP g (mz g)]:=by unfold jh;rw[if_neg (by simp)];rfl
 rw[UZ]at LK |-
 refine aZ (λm z r=>∃ (i:Nat) (s:StB) (seen:KMs),z=((([],[]),((s.1,mvR s.2.1 s.2.2),(seen,()))),((i:Int),()))/\OkB g i s/\qG seen s.1/\bfs g m i s=some s'/\r=some (((s'.1,mvR s'.2.1 s'.2.2),(0,())),())) ?_ N0 62 _ _ (by unfold N0;omega) ⟨0,st0 g,UY,rfl,Dx hg,LK,hb,rfl⟩
 rintro m z r ⟨i,s,seen,rfl,hs,Va,hbf,rfl⟩ K hK
 cases m with
 |zero=>cases hbf
 |succ m=>
 have hmx:=hs.mx
 have hle:=hs.le
 rw[bfs]at hbf
 rcases ak i s.1.length with hi|hi
 case inr=>
  have c:¬(i:Int)<(s.1.length:Int):=by omega
  rw[if_pos hi]at hbf
  cases hbf
  simp only[c,if_false]
 rw[if_neg (by omega)]at hbf
 by_cases h60:60<s.1.length
 ·rw[if_pos h60]at hbf;cases hbf
 rw[if_neg h60]at hbf
 have c:(i:Int)<(s.1.length:Int):=by omega
 have c2:¬(2000:Int)<(s.1.length:Int):=by omega
 have hi1:IntKind.wrap .i64 ((i:Int)+1)=((i+1:Nat):Int):=bS hi (by omega)
 have hl:=hs.it _ (ba hi)
 have hst:ft g i s=((cR g s.1[i] s.1 (bN g s.1[i]).length).1,(s.2.1++[bN g s.1[i]],s.2.2++[(cR g s.1[i] s.1 (bN g s.1[i]).length).2])):=by
  unfold ft;rw[List.getElem?_eq_getElem hi]
 have LL:=hs.step hg hi (by omega)
 have B0:s.1[i]?=some s.1[i]:=List.getElem?_eq_getElem hi
 have hl1:=hs.l1
 have hl2:=hs.l2
 have LG:=hs.it
 simp only[c,if_true,c2,if_false,aJ,aa,B0,hi1]
 have hK2:∀ vK,qG vK (ft g i s).1->K ((([],[]),(((ft g i s).1,mvR (ft g i s).2.1 (ft g i s).2.2),(vK,()))),(((i+1:Nat):Int),()))=some (((s'.1,mvR s'.2.1 s'.2.2),(0,())),()):=λvK h2=>
  hK m _ _ (by omega) ⟨i+1,ft g i s,vK,rfl,LL,h2,hbf,rfl⟩
 rw[hst,LI (by rw[hl1,hl2])]at hK2
 clear hK LL hbf hst
 generalize s.1[i]=l at *
 rw[ae (Ss g (by omega:l.length<=100000))]
 simp only
 have hsl:=lL g l
 refine aZ (λm z r=>∃ (k:Nat) (seen:KMs),z=((([],[]),(((cR g l s.1 k).1,mvR s.2.1 s.2.2),(seen,()))),((((bN g l).take k).zip (cR g l s.1 k).2),((k:Int),())))/\k<=(bN g l).length/\qG seen (cR g l s.1 k).1/\m=(bN g l).length-k/\r=some (((s'.1,mvR s'.2.1 s'.2.2),(0,())),())) ?_ N0 (bN g l).length _ _ (by unfold N0;omega) ⟨0,seen,rfl,aC _,Va,rfl,rfl⟩
 rintro m z r ⟨k,vK,rfl,hk,hse,rfl,rfl⟩ L hL
 have hto:=tL g l s.1 k hk
 have Yo:=hto.1
 rcases ak k (bN g l).length with hkl|hkl
 ·have ck:(k:Int)<((bN g l).length:Int):=by omega
  have hk1:IntKind.wrap .i64 ((k:Int)+1)=((k+1:Nat):Int):=bS hkl (by omega)
  obtain⟨e,he,hel⟩:=nL g l s.1 k
  have hgi:(cR g l s.1 k).1[i]?=some l:=by rw[he,List.getElem?_append_left hi];exact B0
  have hrl:(cR g l s.1 k).1.length<=1000:=by rw[he,aj];omega
  have hzl:(((bN g l).take k).zip (cR g l s.1 k).2).length<=1000:=by rw[nY,aN];omega
  have hL2:=hL ((bN g l).length-(k+1))
  have hrs:=sr g l s.1 hkl
  have hzs:((bN g l).take (k+1)).zip (cR g l s.1 (k+1)).2=((bN g l).take k).zip (cR g l s.1 k).2++[((bN g l)[k],(dA (tgt g l (bN g l)[k]) (cR g l s.1 k).1:Int))]:=by
   rw[hrs,cM _ _ hkl]
   exact LJ (by rw[aN];omega) _ _
  simp only[ck,if_true,aJ,aa,hgi,List.getElem?_eq_getElem hkl,hk1,aM,bD]
  have hy1:=tJ (sk hg (bN g l)[k] hl.1)
  have hy2:=Fo hg hl.2 (bN g l)[k]
  rw[ae (Sl hg (bN g l)[k] hl.1 (by omega))]
  simp only
  rw[ae (Ly hg hy1 (by omega))]
  simp only
  have htg:=Dw hg hl.1 (bN g l)[k]
  obtain⟨Vb,e45,XX⟩:=LC hse (by omega) htg.1 (by omega) (mvR s.2.1 s.2.2)
  have XY:p45 N0 (eP g (fy (goL g (bN g l)[k] l)),(vK,(((cR g l s.1 k).1,mvR s.2.1 s.2.2),())))=_:=e45
  rw[ae XY]
  simp only
  rw[if_pos (by omega),if_pos (by omega)]
  refine hL2 _ _ (by omega) ⟨k+1,Vb,?_,by omega,?_,rfl,rfl⟩
  ·rw[hzs,hrs]
  ·rw[hrs];exact XX
 ·have ck:¬(k:Int)<((bN g l).length:Int):=by omega
  have e:k=(bN g l).length:=by omega
  subst e
  have hml:(mvR s.2.1 s.2.2).length<=1000:=by unfold mvR;rw[List.length_zipWith];omega
  rw[cE]
  simp only[ck,if_false,aM,bD]
  rw[if_pos (by omega),if_pos (by omega)]
  exact hK2 vK hse
end
noncomputable section
theorem P4{g:Grm}(h:WfT y32 g):GOk g:=by
 obtain⟨⟨h1,h1'⟩,⟨h2,h2'⟩,⟨h3,h3'⟩,⟨h4,h4'⟩,h5⟩:=h
 exact⟨h4,λl hl=>(h4' l hl).2.1,h3,λp hp=>(h3' p hp).2.2.1.1,h1,h2⟩
theorem Vc{g:Grm}(h:WfT y32 g)(hf:few g=true):tk g:=by
 obtain⟨⟨h1,h1'⟩,⟨h2,h2'⟩,⟨h3,h3'⟩,⟨h4,h4'⟩,h5⟩:=h
 unfold few vg at hf
 simp only[ag,decide_eq_true_eq,cD]at hf
 obtain⟨⟨f1,f2⟩,f3,f4,f5,f6,f7,f8⟩:=hf
 have p7:∀ p∈g.2.2.1,p.2.2.1.length<=20/\p.2.2.2.2.2.length<=20/\p.2.1.length<=100:=λp hp=>by
  have:=f7 p hp
  unfold vj at this
  simpa using this
 refine⟨by omega,λr hr=>?_,by omega,λs hs=>⟨(h2' s hs).2,(h2' s hs).1⟩,by omega,λp hp=>⟨(h3' p hp).2.1.2,(h3' p hp).2.1.1⟩,λp hp=>by have:=(p7 p hp).1;omega,λp hp=>by have:=(p7 p hp).2.1;omega,by omega,λl hl=>by have:=f8 l hl;omega⟩
 have:=h1' r hr
 exact⟨this.1.2,this.1.1,this.2.2.2,this.2.2.1⟩
theorem XZ{g:Grm}(h:WfT y32 g)(hf:few g=true)(h12:g.2.2.1.length<=12):Gs g:=by
 obtain⟨⟨h1,h1'⟩,⟨h2,h2'⟩,⟨h3,h3'⟩,⟨h4,h4'⟩,h5⟩:=h
 unfold few vg at hf
 simp only[ag,decide_eq_true_eq,cD]at hf
 obtain⟨⟨f1,f2⟩,f3,f4,f5,f6,f7,f8⟩:=hf
 refine⟨f3,h12,λp hp=>?_,λp hp y hy=>?_,h5⟩
 ·have:=f7 p hp
  unfold vj at this
  simp at this
  omega
 ·exact((h3' p hp).2.2.1.2 y hy).2
theorem Pp{g:Grm}(h:WfT y32 g):∃ b,p41 N0 (g,())=some ((b,()),())/\(b=true->few g=true/\g.2.2.1.length<=12/\(∀ r∈g.1,r.2.2.length<=12)/\(eS g).1=0):=by
 have hgk:=P4 h
 have hrs:=hgk.rs
 delta p41 Ld Bd Wi
 simp only[aH]
 simp only[bM,decide_eq_true_eq]
 rw[ae (R3 g hgk)]
 simp only
 cases hf:few g
 ·exact⟨false,rfl,λh=>by cases h⟩
 simp only[aA,ap,if_false,decide_eq_true_eq]
 by_cases hp:(12:Int)<(g.2.2.1.length:Int)
 ·rw[if_pos hp]
  exact⟨false,rfl,λh=>by cases h⟩
 rw[if_neg hp]
 have ok:=Vc h hf
 refine Fm (λm z Q=>∃ j:Nat,z=((),((j:Int),()))/\j<=g.1.length/\m=g.1.length-j/\(∀ k (h:k<g.1.length),k<j->g.1[k].2.2.length<=12)/\Q=λr=>∃ b,r=some ((b,()),())/\(b=true->True/\g.2.2.1.length<=12/\(∀ r∈g.1,r.2.2.length<=12)/\(eS g).1=0)) ?_ N0 g.1.length _ _ (by have:=ic hrs;omega) ⟨0,rfl,aC _,rfl,λk _ h=>by omega,rfl⟩
 rintro m z Q ⟨j,rfl,hj,rfl,fu,rfl⟩ K hK
 rcases ak j g.1.length with hjl|hjl
 ·have cj:(j:Int)<(g.1.length:Int):=by omega
  simp only[cj,if_true,aJ,aa,List.getElem?_eq_getElem hjl,bc hjl hrs]
  by_cases hr:(12:Int)<(g.1[j].2.2.length:Int)
  ·rw[if_pos hr]
   exact⟨false,rfl,λh=>by cases h⟩
  ·rw[if_neg hr]
   refine hK (g.1.length-(j+1)) _ _ (by omega) ⟨j+1,rfl,hjl,rfl,λk hk hkj=>?_,rfl⟩
   by_cases e:k=j
   ·subst e;omega
   ·exact fu k hk (by omega)
 ·have cj:¬(j:Int)<(g.1.length:Int):=by omega
  simp only[cj,if_false]
  rw[ae (KR ok)]
  simp only
  refine⟨_,rfl,λhb=>⟨trivial,by omega,λr hr=>?_,by simpa using hb⟩⟩
  obtain⟨k,hk,rfl⟩:=fa.1 hr
  exact fu k hk (by omega)
structure Trd(g:Grm)(w:StB):Prop where
 gs:Gs g
 ok:tk g
 r12:∀ r∈g.1,r.2.2.length<=12
 e0:(eS g).1=0
 bf:bfs g 62 0 (st0 g)=some w
 fw:few g=true
theorem Pq{g:Grm}(h:WfT y32 g):∃ w b,p11 N0 (g,())=some ((w,(b,())),())/\(b=true->Trd g w):=by
 obtain⟨b,h1,h2⟩:=Pp h
 unfold p11
 simp only
 rw[ae h1]
 simp only
 cases b
 ·exact⟨_,false,rfl,λh=>by cases h⟩
 ·obtain⟨f1,f2,f3,f4⟩:=h2 rfl
  have hg:=XZ h f1 f2
  obtain⟨out,ok,e1,e2⟩:=Po hg
  rw[aA,cond_false,ae e1]
  exact⟨out,ok,rfl,λhb=>⟨hg,Vc h f1,f3,f4,e2 hb,f1⟩⟩
theorem Trd.r20{g:Grm}{w:StB}(t:Trd g w):g.1.length<=20:=by
 have hf:=t.fw
 unfold few vg at hf
 simp only[ag,decide_eq_true_eq,cD]at hf
 exact hf.1.1
theorem Trd.p31{g:Grm}{w:StB}(t:Trd g w):∃ a b,p43 N0 (g,())=some (((0,(a,b)),()),()):=by
 have:=KQ t.ok t.r12
 rw[show eS g=((eS g).1,((eS g).2.1,(eS g).2.2))from rfl,t.e0]at this
 exact⟨_,_,this⟩
theorem Trd.p18{g:Grm}{w:StB}(t:Trd g w):p12 N0 (g,())=some (((w.1,mvR w.2.1 w.2.2),(0,())),()):=by
 obtain⟨a,b,h⟩:=t.p31
 exact Sw t.gs h t.bf
theorem Trd.okB{g:Grm}{w:StB}(t:Trd g w):OkB g w.1.length w:=(LF t.gs _ _ _ _ (Dx t.gs) t.bf).1
theorem zl(s:List (List ItS)×List (List (SyS×Int))):p14 N0 (s,())=some ((((s.1.length:Nat):Int),()),()):=rfl
theorem Pr{g:Grm}{w:StB}(hk:OkB g w.1.length w):(mvR w.2.1 w.2.2).length=w.1.length:=by
 unfold mvR;rw[List.length_zipWith,hk.l1,hk.l2,Nat.min_self]
theorem qH{g:Grm}{w:StB}(hk:OkB g w.1.length w){i:Nat}(hi:i<w.1.length):∃ (l:List ItS) (sy:List SyS) (to:List Int),w.1[i]?=some l/\w.2.1[i]?=some sy/\w.2.2[i]?=some to/\(mvR w.2.1 w.2.2)[i]?=some (sy.zip to)/\to.length=sy.length/\sy=bN g l/\l.length<=273:=by
 obtain⟨l,r1,r2,to,r3,r4,_⟩:=hk.row i hi
 refine⟨l,_,to,r1,r2,r3,?_,r4,rfl,(hk.it l (List.mem_of_getElem? r1)).2⟩
 unfold mvR
 rw[List.getElem?_zipWith,r2,r3]
theorem Fq{sy:List SyS}{to:List Int}(h:to.length=sy.length){k:Nat}(hk:k<sy.length):(sy.zip to)[k]?=some (sy[k],to[k]):=by
 rw[List.getElem?_eq_getElem (by rw[nY];omega),List.getElem_zip]
end
noncomputable section
def pG(x:SyS):List SyS->Nat
 |[]=>0
 |y::r=>if y=x then 0 else pG x r+1
theorem qI{x:SyS}:∀ {l:List SyS},x∈l->l[pG x l]?=some x
 |[],h=>by cases h
 |y::r,h=>by
  unfold pG
  split
  ·rename_i e;subst e;rfl
  ·rename_i e
   rw[List.getElem?_cons_succ]
   exact qI ((ay.1 h).resolve_left λe'=>e e'.symm)
theorem tM{x:SyS}:∀ {l:List SyS},¬x∈l->pG x l=l.length
 |[],_=>rfl
 |y::r,h=>by
  have h1:¬y=x:=λe=>h (by rw[e];exact bm)
  rw[pG,if_neg h1,tM (λhm=>h (bw _ hm)),aM]
theorem Fs{x:SyS}:∀ {l:List SyS} (k:Nat) (h:k<l.length),k<pG x l->l[k]≠x
 |[],k,h,_=>by simp at h
 |y::r,k,h,hk=>by
  unfold pG at hk
  split at hk
  ·omega
  ·rename_i e
   cases k with
   |zero=>exact e
   |succ k=>exact Fs k (by simpa using h) (by omega)
theorem Ft{x:SyS}:∀ {l:List SyS},pG x l<=l.length
 |[]=>ar _
 |y::r=>by
  have:=Ft (x:=x) (l:=r)
  unfold pG
  split
  ·omega
  ·rw[aM];omega
def goN(sy:List SyS)(to:List Int)(x:SyS):Int:=match to[pG x sy]? with
 |some t=>t
 |none=>-1
def goW(w:StB)(st:Int)(x:SyS):Int:=if st<0 then -1 else match w.2.1[st.toNat]?,w.2.2[st.toNat]? with
 |some sy,some to=>goN sy to x
 |_,_=>-1
theorem Sx{y s:SyS}(h:y=s):(bif(y.1 == s.1)then decide (y.2=s.2)else false)=true:=mD.2 (by rw[h])
theorem Sz{y s:SyS}(h:¬y=s):(bif(y.1 == s.1)then decide (y.2=s.2)else false)=false:=by
 cases hq:(bif(y.1 == s.1)then decide (y.2=s.2)else false)
 ·rfl
 ·have:=mD.1 hq
  cases this
  exact absurd rfl h
theorem LM{g:Grm}{w:StB}(hk:OkB g w.1.length w){st:Int}(h0:0<=st)(h1:st<(w.1.length:Int))(x:SyS):∃ (l:List ItS) (sy:List SyS) (to:List Int),w.1[st.toNat]?=some l/\w.2.1[st.toNat]?=some sy/\w.2.2[st.toNat]?=some to/\(mvR w.2.1 w.2.2)[st.toNat]?=some (sy.zip to)/\to.length=sy.length/\sy=bN g l/\l.length<=273/\goW w st x=goN sy to x:=by
 obtain⟨l,sy,to,g1,g2,g3,g4,g5,g6,g7⟩:=qH hk (i:=st.toNat) (by omega)
 refine⟨l,sy,to,g1,g2,g3,g4,g5,g6,g7,?_⟩
 unfold goW
 rw[if_neg (by omega),g2,g3]
theorem zm{g:Grm}{w:StB}(hk:OkB g w.1.length w){st:Int}(h:st<0\/(w.1.length:Int)<=st)(x:SyS):goW w st x=-1:=by
 unfold goW
 by_cases h0:st<0
 ·rw[if_pos h0]
 ·rw[if_neg h0,List.getElem?_eq_none (by rw[hk.l1];omega)]
theorem SA{g:Grm}{w:StB}(hk:OkB g w.1.length w)(st:Int)(x:SyS):p16 N0 ((w.1,mvR w.2.1 w.2.2),(st,(x,())))=some ((goW w st x,()),()):=by
 have hml:=Pr hk
 delta p16 Ld Bd Wi
 simp only[aH]
 simp only[bM,decide_eq_true_eq]
 by_cases h0:st<0
 ·rw[if_pos h0,if_pos trivial,zm hk (.inl h0)]
 rw[if_neg h0]
 by_cases h1:((mvR w.2.1 w.2.2).length:Int)<=st
 ·rw[if_pos h1,zm hk (.inr (by rw[hml]at h1;exact h1))]
 rw[if_neg h1]
 rw[hml]at h1
 obtain⟨l,sy,to,g1,g2,g3,g4,g5,g6,g7,g8⟩:=LM hk (by omega:0<=st) (by omega) x
 have hsl:=lL g l
 rw[<-g6]at hsl
 have hp:=Ft (x:=x) (l:=sy)
 have h00:0<=st:=by omega
 have hzl:(sy.zip to).length=sy.length:=by rw[nY];omega
 simp only[h00,if_true,g4,hzl]
 refine bE (λk=>((),((k:Int),()))) (λ_=>some ((goW w st x,()),())) (pG x sy) (λk hk' L hL=>?_) N0 0 (aC _) (by unfold N0;omega)
 rw[g8]at hL |-
 rcases ak k sy.length with hkl|hkl
 ·have ck:(k:Int)<(sy.length:Int):=by omega
  have hk1:IntKind.wrap .i64 ((k:Int)+1)=((k+1:Nat):Int):=bS hkl (by omega)
  have hkt:k<to.length:=by omega
  simp only[ck,if_true,aJ,aa,Fq g5 hkl,hk1]
  rcases ak k (pG x sy)with hlt|hge
  ·have hf:=Sz (Fs k hkl hlt)
   simp only[<-bM,hf,cond_false]
   exact hL hlt
  ·have e:k=pG x sy:=by omega
   have he:sy[k]=x:=by
    by_cases hm:x∈sy
    ·have:=qI hm
     rw[<-e,List.getElem?_eq_getElem hkl]at this
     exact cu this
    ·have:=tM hm
     omega
   have ht:=Sx he
   simp only[<-bM,ht,cond_true]
   unfold goN
   rw[<-e,List.getElem?_eq_getElem hkt]
   exact if_pos trivial
 ·have ck:¬(k:Int)<(sy.length:Int):=by omega
  simp only[ck,if_false]
  unfold goN
  rw[List.getElem?_eq_none (by omega)]
theorem Dz(g:GrS)(hg:Gs g):eP g []=[]:=by
 have h0:OkI []:=⟨(λx h=>by cases h),(λx h=>by cases h)⟩
 have hc:Can (ClG g []) []:=EY.congr λp d o=>⟨λh=>h.elim,λh=>Cl.least (A:=λ_ _ _=>False) (λp d o hb=>Dh hb) (λp d o hs=>by
  obtain⟨_,hs⟩:=hs
  cases o with
  |none=>obtain⟨_,_,h,_⟩:=hs;exact h
  |some b=>obtain⟨_,_,_,h|h⟩:=hs <;> exact h.1) h⟩
 exact(fI hg h0).BE hc
theorem B3{g:GrS}(hg:Gs g){l:List ItS}{x:SyS}(h:¬Nxs g l x):tgt g l x=[]:=by
 have:goL g x l=[]:=by
  cases hq:goL g x l with
  |nil=>rfl
  |cons y r=>
   obtain⟨z,hz,hn,_⟩:=mC.1 (show y∈goL g x l by rw[hq];exact bm)
   exact absurd ⟨z,hz,hn⟩ h
 unfold tgt
 rw[this]
 exact Dz g hg
theorem LN{g:GrS}(hg:Gs g){l:List ItS}(hl:OkI l){x:SyS}(h:Nxs g l x):tgt g l x≠[]:=by
 obtain⟨z,hz,hn⟩:=h
 have hok:=sk hg x hl
 have hm:(z.1,(z.2.1+1,z.2.2))∈goL g x l:=mC.2 ⟨z,hz,hn,rfl⟩
 have h1:=((jg hok.bd).at' z.1 (z.2.1+1) none).2 ⟨_,hm,rfl,rfl⟩
 have h2:=((fI hg (tJ hok)).at' z.1 (z.2.1+1) none).2 (.base h1)
 obtain⟨y,hy,_⟩:=h2
 intro e
 rw[show eP g (fy (goL g x l))=tgt g l x from rfl,e]at hy
 cases hy
def SB(w:StB)(st:Int)(L:List ItS):Prop:=(st=-1/\L=[])\/∃ i:Nat,st=(i:Int)/\w.1[i]?=some L/\L≠[]
theorem SB.next{g:Grm}{w:StB}(hg:Gs g)(hk:OkB g w.1.length w){st:Int}{L:List ItS}(h:SB w st L)(x:SyS):SB w (goW w st x) (tgt g L x):=by
 rcases h with⟨rfl,rfl⟩|⟨i,rfl,h1,h2⟩
 ·left
  refine⟨zm hk (.inl (by omega)) x,B3 hg ?_⟩
  rintro⟨z,hz,_⟩;cases hz
 ·have hi:=(List.getElem?_eq_some_iff.1 h1).1
  obtain⟨l,sy,to,g1,g2,g3,g4,g5,g6,g7,g8⟩:=LM hk (by omega:0<=(i:Int)) (by omega) x
  rw[aa]at g1 g2 g3
  rw[h1]at g1
  cases g1
  have hL:=(hk.it L (List.mem_of_getElem? h1)).1
  rw[g8]
  by_cases hm:Nxs g L x
  ·right
   have hms:x∈sy:=by rw[g6];exact((oR g L).mem x).2 hm
   have hp:=qI hms
   obtain⟨l',r1,r2,to',r3,r4,r5⟩:=hk.row i hi
   rw[h1]at r1
   cases r1
   rw[g3]at r3
   cases r3
   rw[g6]at hp
   obtain⟨t,t1,t2⟩:=r5 _ _ hp
   refine⟨t,?_,t2,LN hg hL hm⟩
   unfold goN
   rw[g6,t1]
  ·left
   have hms:¬x∈sy:=by rw[g6];exact λh=>hm (((oR g L).mem x).1 h)
   refine⟨?_,B3 hg hm⟩
   unfold goN
   rw[tM hms,List.getElem?_eq_none (by omega)]
theorem LO{g:Grm}{P:List ItS->Prop}(ht:∀ l s,P (tgt g l s)){l:List ItS}{items:List (List ItS)}(h:∀ m∈items,P m):∀ k,∀ m∈(cR g l items k).1,P m
 |0=>h
 |k+1=>by
  have ih:=LO ht (l:=l) h k
  unfold cR
  split
  ·rename_i s _
   intro m hm
   change m∈jh (cR g l items k).1 (tgt g l s)at hm
   unfold jh at hm
   split at hm
   ·exact ih m hm
   ·rcases au.1 hm with hm|hm
    ·exact ih m hm
    ·rw[aL.1 hm];exact ht l s
  ·exact ih
theorem P5{g:Grm}{P:List ItS->Prop}(ht:∀ l s,P (tgt g l s)):∀ (m i:Nat) (s s':StB),(∀ l∈s.1,P l)->bfs g m i s=some s'->∀ l∈s'.1,P l
 |0,i,s,s',_,h=>by cases h
 |m+1,i,s,s',hs,h=>by
  rw[bfs]at h
  split at h
  ·cases h;exact hs
  ·split at h
   ·cases h
   ·refine P5 ht m (i+1) (ft g i s) s' ?_ h
    unfold ft
    split
    ·exact LO ht hs _
    ·exact hs
def RgP(g:Grm)(l:List ItS):Prop:=∀ x∈l,0<=x.1/\x.1<=(g.2.2.1.length:Int)
theorem xw{g:Grm}{l:List ItS}(h:RgP g l):RgP g (eP g l):=by
 intro x hx
 obtain⟨p,d,_,_,ha,e1,_⟩:=hY.1 hx
 rw[e1]
 have key:∀ {p d:Int} {o:Option Nat},ClG g l p d o->0<=p/\p<=(g.2.2.1.length:Int):=by
  intro p d o hc
  have hst:∀ {p d q:Int},stG g p d q->0<=q/\q<=(g.2.2.1.length:Int):=λ⟨k,pr,e,h1,_⟩=>by
   have:=(List.getElem?_eq_some_iff.1 h1).1
   omega
  unfold ClG at hc
  cases hc with
  |base hb=>
   obtain⟨z,hz,h1,_⟩:=hb.there
   have:=h z hz
   rw[h1]at this;exact this
  |there _ h2=>exact hst h2
  |first _ h2 _=>exact hst h2
  |look _ h2 _=>exact hst h2
 exact key ha
theorem SC{g:Grm}(hg:Gs g)(l:List ItS)(s:SyS):RgP g (tgt g l s):=by
 refine xw λx hx=>?_
 have hm:∃ y∈goL g s l,y.1=x.1:=by
  have key:∀ (m:List ItS),∀ y∈fy m,∃ z∈m,z.1=y.1:=by
   have X0:∀ (z:ItS) (o:List ItS),∀ y∈mu z o,y.1=z.1\/∃ u∈o,u.1=y.1:=by
    intro z o
    induction o with
    |nil=>intro y hy;rw[show mu z []=[z]from rfl,aL]at hy;rw[hy];exact .inl rfl
    |cons u o ih=>
     intro y hy
     unfold mu at hy
     split at hy
     ·rcases ay.1 hy with rfl|hy
      ·exact .inr ⟨_,bm,rfl⟩
      ·rcases ih y hy with h|⟨v,hv,e⟩
       ·exact .inl h
       ·exact .inr ⟨v,bw _ hv,e⟩
     ·split at hy
      ·rcases ay.1 hy with rfl|hy
       ·exact .inr ⟨u,bm,rfl⟩
       ·exact .inr ⟨y,bw _ hy,rfl⟩
      ·rcases ay.1 hy with rfl|hy
       ·exact .inl rfl
       ·exact .inr ⟨y,hy,rfl⟩
   intro m
   have gen:∀ (m o:List ItS),∀ y∈m.foldl (λo x=>mu x o) o,(∃ z∈m,z.1=y.1)\/∃ u∈o,u.1=y.1:=by
    intro m
    induction m with
    |nil=>intro o y hy;exact .inr ⟨y,hy,rfl⟩
    |cons z m ih=>
     intro o y hy
     rcases ih (mu z o) y hy with⟨v,hv,e⟩|⟨u,hu,e⟩
     ·exact .inl ⟨v,bw _ hv,e⟩
     ·rcases X0 z o u hu with h|⟨v,hv,e'⟩
      ·exact .inl ⟨z,bm,h.symm.trans e⟩
      ·exact .inr ⟨v,hv,e'.trans e⟩
   intro y hy
   rcases gen m [] y hy with h|⟨u,hu,_⟩
   ·exact h
   ·cases hu
  exact key _ x hx
 obtain⟨y,hy,e⟩:=hm
 obtain⟨z,hz,hn,rfl⟩:=mC.1 hy
 have h1:=vA hn
 have:=vz (g:=g) (q:=z.1) (λe=>by rw[e]at h1;simp at h1)
 rw[<-e]
 exact this
theorem SD{g:Grm}{w:StB}(t:Trd g w):∀ l∈w.1,RgP g l:=P5 (λl s=>SC t.gs l s) _ _ _ _ (λl hl=>by
 rw[aL.1 hl]
 refine xw λx hx=>?_
 rw[aL.1 hx]
 exact⟨by show(0:Int)<=(g.2.2.1.length:Int);omega,iA _⟩) t.bf
def jA(g:Grm)(x:ItS):Bool:=decide (x.2.1=((dz g x.1).1.length:Int))
theorem Ps{g:Grm}{q:Int}(h:0<=q/\q<=(g.2.2.1.length:Int)):(dz g q).2=true:=by
 unfold dz
 split
 ·split <;> rfl
 ·split
  ·rfl
  ·omega
theorem SE{g:Grm}{x:ItS}(h:0<=x.1/\x.1<=(g.2.2.1.length:Int)):p52 N0 (g,(x,()))=some ((jA g x,()),()):=by
 unfold p52
 simp only[aH]
 rw[ae (y0 g x.1)]
 simp only
 rw[Ps h,cond_true]
 rfl
theorem sX{α:Type}(p:α->Bool)(l:List α){j:Nat}(h:j<l.length):(l.take (j+1)).filter p=(l.take j).filter p++(if p l[j]=true then [l[j]]else []):=by
 rw[cM _ _ h,kQ]
 congr 1
 cases hp:p l[j]
 ·simp[hp]
 ·simp[hp]
theorem LP{g:Grm}{w:StB}(t:Trd g w){i:Nat}{L:List ItS}(h:w.1[i]?=some L):p15 N0 ((w.1,mvR w.2.1 w.2.2),(g,((i:Int),())))=some ((((L.filter (jA g)).map (·.1)),(((L.filter (jA g)).map (·.2.2)),())),()):=by
 have hi:=(List.getElem?_eq_some_iff.1 h).1
 have hLm:=List.mem_of_getElem? h
 have hrg:=SD t L hLm
 have hLl:=(t.okB.it L hLm).2
 delta p15 Ld Ap Bd Wi
 simp only[aH]
 simp only[bM,decide_eq_true_eq]
 have h1:¬(i:Int)<0:=by omega
 have h2:¬(w.1.length:Int)<=(i:Int):=by omega
 simp only[h1,if_false,h2,aJ,if_true,aa,h]
 refine bE (λj=>((),(((L.take j).filter (jA g)).map (·.1),(((L.take j).filter (jA g)).map (·.2.2),((j:Int),()))))) (λ_=>some ((((L.filter (jA g)).map (·.1)),(((L.filter (jA g)).map (·.2.2)),())),())) L.length (λj hj K hK=>?_) N0 0 (aC _) (by unfold N0;omega)
 rcases ak j L.length with hjl|hjl
 ·have c:(j:Int)<(L.length:Int):=by omega
  have hK:=hK hjl
  have hj1:IntKind.wrap .i64 ((j:Int)+1)=((j+1:Nat):Int):=bS hjl (by omega)
  have hfl:((L.take j).filter (jA g)).length<=j:=bu (gA _ _) (by rw[aN];omega)
  rw[sX _ _ hjl]at hK
  simp only[c,if_true,aJ,aa,List.getElem?_eq_getElem hjl,hj1]
  rw[ae (SE (hrg _ (ba hjl)))]
  simp only
  cases hw:jA g L[j]
  ·rw[hw]at hK
   simpa using hK
  ·rw[hw]at hK
   simp only[if_true,bJ,aM,bD]
   rw[if_pos (by omega),if_pos (by omega),if_pos (by omega),if_pos (by omega)]
   simpa using hK
 ·have c:¬(j:Int)<(L.length:Int):=by omega
  simp only[c,if_false]
  rw[bP hjl]
end
noncomputable section
theorem HP{α:Type}{E:Nat->α->Int}:∀ {l:List α} {i:Nat},cJ E i l=none->∀ k a,l[k]?=some a->E (i+k) a=0:=by
 intro l
 induction l with
 |nil=>intro i _ k a h;simp at h
 |cons x r ih=>
  intro i h k a hk
  simp only[cJ]at h
  split at h
  ·rename_i h0
   cases k with
   |zero=>simp at hk;subst hk;exact h0
   |succ k=>simp at hk;rw[show i+(k+1)=i+1+k by omega];exact ih h k a hk
  ·cases h
theorem vL{g:Grm}(h:(eS g).1=0):∀ p∈g.2.2.1,(0<=p.1/\p.1<(g.2.1.length:Int))/\∀ y∈p.2.2.1,(y.1=false->0<=y.2/\y.2<(g.1.length:Int))/\(y.1=true->0<=y.2/\y.2<(g.2.1.length:Int)):=by
 unfold eS at h
 split at h
 ·rename_i h1;exact absurd h h1
 unfold BD at h
 split at h
 ·simp at h
 split at h
 ·rename_i p hp;exact absurd h (oJ hp)
 unfold BC at h
 split at h
 ·simp at h
 split at h
 ·rename_i p hp;exact absurd h (oJ hp)
 rename_i hpr
 intro p hp
 obtain⟨i,hi⟩:=List.mem_iff_getElem?.1 hp
 have h0:=HP hpr i p hi
 unfold mI at h0
 split at h0
 ·cases h0
 rename_i h1
 split at h0
 ·cases h0
 split at h0
 ·cases h0
 rename_i h3
 split at h0
 ·cases h0
 split at h0
 case isFalse=>cases h0
 unfold xm at h0
 split at h0
 case isFalse=>cases h0
 rename_i h4
 refine⟨by omega,λs hs=>?_⟩
 have hsy:=cD.1 h4 s hs
 unfold fZ at hsy
 refine⟨λe=>?_,λe=>?_⟩
 ·rw[if_neg (by simp[e])]at hsy
  simp only[ag,decide_eq_true_eq]at hsy
  have hlt:s.2.toNat<g.1.length:=by
   apply ij
   intro hn
   simp[List.getElem?_eq_none (by omega:g.1.length<=s.2.toNat)]at hsy
  omega
 ·rw[if_pos e]at hsy
  simp at hsy
  omega
def Vd(nR:Nat)(look:Int):Prop:=∀ b,look.toNat.testBit b=true->b<nR\/b=63
def o9(nR:Nat)(l:List ItS):Prop:=∀ x∈l,Vd nR x.2.2
theorem Pt{g:Grm}(h:(eS g).1=0){n:Nat}{s:Int}{b:Nat}(hf:Fst g.2.2.1 n s b):b<g.1.length:=by
 induction hf with
 |tok p pre y post b hp hr e h1 k1 k2 k3=>
  have:=((vL h p hp).2 y (by rw[e];simp)).1 k1
  omega
 |sort _ _ _ _ _ _ _ _ _ _ _ ih=>exact ih
theorem Pu{g:Grm}(h:(eS g).1=0){p d:Int}{b:Nat}(hin:0<=p/\p<=(g.2.2.1.length:Int))(hf:fsG g p d b):b<g.1.length:=by
 obtain⟨pre,y,post,e,_,hy⟩:=hf
 have hm:y∈(dz g p).1:=ir (show y∈qC g p d by rw[e];simp)
 rcases hy with⟨h1,h2,_⟩|⟨h1,h2,h3⟩
 ·unfold dz at hm
  split at hm
  ·split at hm
   ·rename_i pr hpr
    have:=((vL h pr (List.mem_of_getElem? hpr)).2 y hm).1 h1
    omega
   ·cases hm
  ·split at hm
   ·rw[aL.1 hm]at h1;cases h1
   ·cases hm
 ·exact Pt h (K8.1 h3)
theorem xx{g:Grm}(h:(eS g).1=0){l:List ItS}(hl:o9 g.1.length l):o9 g.1.length (eP g l):=by
 intro x hx b hb
 obtain⟨p,d,_,_,_,e1,e2,_,BS⟩:=hY.1 hx
 have hc:=((BS b).1 hb).2
 have key:∀ {p d:Int} {o:Option Nat},Cl (stG g) (fsG g) (nlG g) (At l) p d o->∀ b,o=some b->b<g.1.length\/b=63:=by
  intro p d o hc
  induction hc with
  |base h1=>
   intro b e
   subst e
   obtain⟨z,hz,_,_,hb⟩:=h1
   exact hl z hz b hb
  |there _ _ _=>intro b e;cases e
  |first _ h2 h3 _=>
   intro b e
   cases e
   left
   refine Pu h ?_ h3
   obtain⟨k,pr,_,_,hn⟩:=h2
   have h1:=vA hn
   exact vz λe=>by rw[e]at h1;simp at h1
  |look _ _ _ ih=>intro b e;cases e;exact ih _ rfl
 exact key hc b rfl
theorem Pv{nR:Nat}{l:List ItS}(hb:∀ x∈l,jc x)(hl:o9 nR l):o9 nR (fy l):=by
 intro x hx b BS
 obtain⟨z,hz,_,_,h⟩:=((jg hb).at' x.1 x.2.1 (some b)).1 ⟨x,hx,rfl,rfl,BS⟩
 exact hl z hz b h
theorem SF{g:Grm}(h:(eS g).1=0){l:List ItS}(hb:∀ x∈l,jc x)(hl:o9 g.1.length l)(s:SyS):o9 g.1.length (tgt g l s):=by
 refine xx h (Pv (λy hy=>?_) λy hy=>?_)
 ·obtain⟨z,hz,_,rfl⟩:=mC.1 hy
  exact hb z hz
 ·obtain⟨z,hz,_,rfl⟩:=mC.1 hy
  exact hl z hz
theorem LQ{g:Grm}{P:List ItS->Prop}{l:List ItS}(ht:∀ s,P (tgt g l s)){items:List (List ItS)}(h:∀ m∈items,P m):∀ k,∀ m∈(cR g l items k).1,P m
 |0=>h
 |k+1=>by
  have ih:=LQ ht (l:=l) h k
  unfold cR
  split
  ·rename_i s _
   intro m hm
   change m∈jh (cR g l items k).1 (tgt g l s)at hm
   unfold jh at hm
   split at hm
   ·exact ih m hm
   ·rcases au.1 hm with hm|hm
    ·exact ih m hm
    ·rw[aL.1 hm];exact ht s
  ·exact ih
theorem P6{g:Grm}{P:List ItS->Prop}(ht:∀ l s,P l->P (tgt g l s)):∀ (m i:Nat) (s s':StB),(∀ l∈s.1,P l)->bfs g m i s=some s'->∀ l∈s'.1,P l
 |0,i,s,s',_,h=>by cases h
 |m+1,i,s,s',hs,h=>by
  rw[bfs]at h
  split at h
  ·cases h;exact hs
  ·split at h
   ·cases h
   ·refine P6 ht m (i+1) (ft g i s) s' ?_ h
    unfold ft
    split
    ·rename_i l hl
     exact LQ (λy=>ht l y (hs l (List.mem_of_getElem? hl))) hs _
    ·exact hs
theorem SG{g:Grm}{w:StB}(t:Trd g w):∀ l∈w.1,o9 g.1.length l:=by
 have h:=P6 (P:=λl=>(∀ x∈l,jc x)/\o9 g.1.length l) (g:=g) (λl s hl=>⟨λx hx=>by
  obtain⟨_,_,_,_,_,_,_,hU,_⟩:=hY.1 hx
  exact hU,SF t.e0 hl.1 hl.2 s⟩) _ _ _ _ (λl hl=>by
  rw[aL.1 hl]
  refine⟨λx hx=>?_,xx t.e0 λx hx=>?_⟩
  ·obtain⟨_,_,_,_,_,_,_,hU,_⟩:=hY.1 hx
   exact hU
  ·rw[aL.1 hx]
   intro b hb
   have:=(qy 63 b).1 hb
   omega) t.bf
 exact λl hl=>(h l hl).2
end
noncomputable section
abbrev Ac:=Int×Int
abbrev Cla:=Int×(Int×(Int×(Int×(Int×Bool))))
def jn(g:GrS)(q:Int):Ac:=(if q=(g.2.2.1.length:Int)then 3 else 2,q)
def tm(st at' q:Int)(now was:Ac)(d:Int):Ac×List Cla:=
 if was.1=0 then(now,[])else if was.1=1 then
  (if d=1 then(now,[(st,(at',(q,(-1,(2,false)))))])else if d=2 then((0,0),[(st,(at',(q,(-1,(0,false)))))])else if d=0 then(was,[(st,(at',(q,(-1,(1,false)))))])else(was,[(st,(at',(q,(-1,(1,true)))))]))
 else(was,[(st,(at',(was.2,(q,(was.1,true)))))])
abbrev RwS:=List Ac×List Cla
def stepT(g:GrS)(dec:Int->Nat->Int)(st q:Int)(s:RwS)(at':Nat):RwS:=match s.1[at']? with
 |some was=>(s.1.set at' (tm st (at':Int) q (jn g q) was (dec q at')).1,s.2++(tm st (at':Int) q (jn g q) was (dec q at')).2)
 |none=>s
def jq(look:Int):List Nat:=(List.range 64).filter λt=>look.toNat.testBit t
def atT(nR t:Nat):Nat:=if t=63 then nR else t
theorem vM(st at' q:Int)(now was:Ac)(d:Int):(tm st at' q now was d).2.length<=1:=by
 unfold tm
 repeat' split
 all_goals simp
theorem HQ(g:GrS)(dec:Int->Nat->Int)(st q:Int)(s:RwS)(at':Nat):(stepT g dec st q s at').1.length=s.1.length/\(stepT g dec st q s at').2.length<=s.2.length+1:=by
 unfold stepT
 split
 ·rename_i was _
  have:=vM st (at':Int) q (jn g q) was (dec q at')
  exact⟨by simp,by show(s.2++_).length<=_;rw[aj];omega⟩
 ·exact⟨rfl,by omega⟩
end
noncomputable section
def lev(r:Int):List Lvl->Nat->Int×Int
 |[],_=>(0,0)
 |l::ls,i=>if r∈l.2 then(((i+1:Nat):Int),l.1)else lev r ls (i+1)
abbrev vF(p:Int×Int):Option ((Int×(Int×Unit))×Unit):=some ((p.1,(p.2,())),())
theorem zn(g:Grm)(r:Int)(hl:g.2.2.2.1.length<=maxLen)(hr:∀ l∈g.2.2.2.1,l.2.length<=maxLen):Hi N0 (g,(r,()))=vF (lev r g.2.2.2.1 0):=by
 delta Hi Ld Bd Wi
 refine bE (λj=>((),((j:Int),()))) (λj=>vF (lev r (g.2.2.2.1.drop j) j)) g.2.2.2.1.length (λj hj k hk=>?_) N0 0 (aC _) (by have:=ic hl;omega)
 rcases ak j g.2.2.2.1.length with hlt|hge
 ·have hk:=hk hlt
  have hc:((j:Nat):Int)<(g.2.2.2.1.length:Int):=by omega
  have hd:g.2.2.2.1.drop j=g.2.2.2.1[j]::g.2.2.2.1.drop (j+1):=cL hlt
  simp only[hc,decide_true,cond_true,aa,aJ,if_true,List.getElem?_eq_getElem hlt,hd,lev]
  have hr':=hr _ (ba hlt)
  generalize g.2.2.2.1[j]=l at hr' |-
  refine(bE (λm=>((),((m:Int),()))) (λm=>if r∈l.2.drop m then vF (((j+1:Nat):Int),l.1)else vF (lev r (g.2.2.2.1.drop (j+1)) (j+1))) l.2.length (λm hm k2 hk2=>?_) N0 0 (aC _) (by have:=ic hr';omega)).trans ?_
  ·rcases ak m l.2.length with Pw|X1
   ·have hk2:=hk2 Pw
    have hc2:((m:Nat):Int)<(l.2.length:Int):=by omega
    have hd2:l.2.drop m=l.2[m]::l.2.drop (m+1):=cL Pw
    simp only[hc2,decide_true,cond_true,aa,aJ,if_true,List.getElem?_eq_getElem Pw,hd2,ay,bc hlt hl,bc Pw hr',bM,decide_eq_true_eq,hk2]
    by_cases e:l.2[m]=r
    ·simp[e]
    ·simp[e,Ne.symm e]
   ·have hc2:¬((m:Nat):Int)<(l.2.length:Int):=by omega
    simp only[hc2,decide_false,cond_false,eo X1,bX,if_false,bc hlt hl]
    exact hk
  ·rw[cU];split <;> rfl
 ·have hc:¬((j:Nat):Int)<(g.2.2.2.1.length:Int):=by omega
  simp only[hc,decide_false,cond_false,eo hge,lev]
def vN(ls:List Lvl)(acc:Int×Int)(s:Bool×Int):Int×Int:=if s.1=true then acc else if 0<(lev s.2 ls 0).1 then lev s.2 ls 0 else acc
def ofp(g:Grm)(n:Int):Int×Int:=
 if n<0\/(g.2.2.1.length:Int)<=n then(0,0)else match g.2.2.1[n.toNat]? with
  |none=>(0,0)
  |some p=>if 0<=p.2.2.2.2.1 then lev p.2.2.2.2.1 g.2.2.2.1 0 else p.2.2.1.foldl (vN g.2.2.2.1) (0,0)
theorem Px(g:Grm)(n:Int)(hg:GOk g):N2 N0 (g,(n,()))=vF (ofp g n):=by
 delta N2 Ld Bd Wi
 simp only[aH,bM]
 unfold ofp
 by_cases h1:n<0
 ·simp[h1,vF]
 ·by_cases h2:(g.2.2.1.length:Int)<=n
  ·simp[h1,h2,vF]
  ·obtain⟨m,rfl⟩:∃ m:Nat,n=m:=⟨n.toNat,by omega⟩
   have hm:m<g.2.2.1.length:=by omega
   simp only[h1,h2,decide_false,ap,if_false,or_self,aa,aJ,if_true,List.getElem?_eq_getElem hm]
   have hb:=hg.pb _ (ba hm)
   generalize g.2.2.1[m]=p at hb |-
   by_cases h3:0<=p.2.2.2.2.1
   ·simp only[h3,decide_true,if_true]
    rw[zn g _ hg.ls hg.lr]
    rfl
   ·simp only[h3,decide_false,ap,if_false]
    have h0:IntKind.wrap .i64 ((p.2.2.1.length:Int)-1)=(p.2.2.1.length:Int)-1:=by unfold maxLen at hb;exact bz (by omega) (by omega)
    rw[h0]
    refine(Hm (λj:Nat=>((),((j:Int)-1,()))) (λj=>vF ((p.2.2.1.take j).foldl (vN g.2.2.2.1) (0,0))) p.2.2.1.length (λj hj k hk=>?_) N0 p.2.2.1.length (ar _) (by have:=ic hb;omega)).trans (by rw[cE])
    rcases j with _|i
    ·simp[vF]
    ·have hk:=hk i rfl
     have e0:((i+1:Nat):Int)-1=(i:Int):=by omega
     simp only[e0,aJ,decide_true,if_true,aa]
     have hi:i<p.2.2.1.length:=by omega
     ·rw[qK hi,fc]
      simp only[List.getElem?_eq_getElem hi,ix,List.foldl_nil]
      have h1:IntKind.wrap .i64 ((i:Int)-1)=(i:Int)-1:=by unfold maxLen at hb;exact bz (by omega) (by omega)
      rw[h1,hk,zn g _ hg.ls hg.lr]
      unfold vN
      by_cases hs:p.2.2.1[i].1=true
      ·simp[hs]
      ·simp only[hs,ap,if_false,aB]
       by_cases hl:0<(lev p.2.2.1[i].2 g.2.2.2.1 0).1
       ·simp[hl,vF]
       ·simp[hl]
def dec(a b:Int×Int):Int:=
 if a.1=0\/b.1=0 then 3 else if b.1<a.1 then 1 else if a.1<b.1 then 0 else if b.2=1 then 1 else if b.2=2 then 0 else 2
theorem Py(g:Grm)(n t:Int)(hg:GOk g):N3 N0 (g,(n,(t,())))=some ((dec (ofp g n) (lev t g.2.2.2.1 0),()),()):=by
 delta N3 Bd
 simp only[Px g n hg,zn g t hg.ls hg.lr,aB,aH,bM,decide_eq_true_eq,dec]
 repeat' split
 all_goals first|rfl|simp_all
end
noncomputable section
def sw(g:Grm)(q:Int)(t:Nat):Int:=dec (ofp g q) (lev (t:Int) g.2.2.2.1 0)
theorem Fu{g:Grm}(hg:GOk g)(st:Int)(t:Nat)(was now:Ac):N4 N0 (g,(st,((t:Int),(was,(now,())))))=some (((tm st (t:Int) now.2 now was (sw g now.2 t)).1,((tm st (t:Int) now.2 now was (sw g now.2 t)).2,())),()):=by
 delta N4 Bd;unfold tm
 simp only[aH]
 simp only[bM,decide_eq_true_eq]
 by_cases h0:was.1=0
 ·simp only[h0,if_true]
 ·by_cases h1:was.1=1
  ·rw[ae (Py g now.2 (t:Int) hg)]
   simp only[h0,h1,if_true,if_false,show ¬(1:Int)=0 by omega]
   show _=_
   unfold sw
   by_cases d1:dec (ofp g now.2) (lev (t:Int) g.2.2.2.1 0)=1
   ·simp only[d1,if_true]
   ·by_cases d2:dec (ofp g now.2) (lev (t:Int) g.2.2.2.1 0)=2
    ·rw[d2];rfl
    ·by_cases d0:dec (ofp g now.2) (lev (t:Int) g.2.2.2.1 0)=0
     ·rw[d0];rfl
     ·simp only[d0,d1,d2,if_false]
  ·simp only[h0,h1,if_false]
theorem B4{a:Int}(ha:U64 a){n:Nat}(hn:n<64):(dK .and .u64 a (kj (n:Int))=0)↔a.toNat.testBit n=false:=by
 have hb:=pD (n:Int)
 have hbn:kj (n:Int)=((2 ^ n:Nat):Int):=by unfold kj;rw[if_pos ⟨by omega,by omega⟩,aa]
 unfold dK
 simp only
 have e:(BitVec.ofInt (IntKind.bits .u64) a&&& BitVec.ofInt (IntKind.bits .u64) (kj (n:Int))).toNat=a.toNat&&& 2 ^ n:=by
  rw[qY]
  have k:∀ x:Int,U64 x->(BitVec.ofInt (IntKind.bits .u64) x).toNat=x.toNat:=λx hx=>by
   unfold U64 at hx
   rw[nT]
   show(x % ((2 ^ 64:Nat):Int)).toNat=x.toNat
   rw[Int.emod_eq_of_lt hx.1 (by
    have:((2 ^ 64:Nat):Int)=18446744073709551616:=by decide
    omega)]
  rw[k a ha,k _ hb,hbn,aa]
 have key:a.toNat&&& 2 ^ n=(a.toNat.testBit n).toNat*2 ^ n:=by
  apply fK
  intro i
  rw[Nat.testBit_and,kP]
  by_cases e:n=i
  ·subst e
   cases ht:a.toNat.testBit n <;> simp
  ·cases ht:a.toNat.testBit n <;> simp[e]
 rw[e,key]
 have hp:(2:Nat) ^ n<2 ^ 64:=nS (by omega) hn
 have hp0:0<(2:Nat) ^ n:=Nat.pos_of_ne_zero (by simp)
 have e64:(2:Nat) ^ 64=18446744073709551616:=by decide
 cases ht:a.toNat.testBit n
 ·simp[wrap_u64 xo]
 ·rw[e64]at hp
  generalize (2:Nat) ^ n=z at *
  have:U64 ((true.toNat*z:Nat):Int):=by
   simp only[Bool.toNat_true,Nat.one_mul]
   exact⟨by omega,by omega⟩
  rw[wrap_u64 this]
  simp
  omega
theorem Pz{a:Int}(ha:U64 a){n:Nat}(hn:n<64):NY N0 (a,((n:Int),()))=some ((a.toNat.testBit n,()),()):=by
 unfold NY
 simp only[yT (n:Int) (by omega) (by omega),aB]
 congr 3
 have:=B4 ha hn
 cases ht:a.toNat.testBit n
 ·rw[ht]at this
  simp[this.2 rfl]
 ·have hne:¬dK .and .u64 a (kj (n:Int))=0:=λe=>by
   rw[ht]at this
   cases this.1 e
  simp[hne]
def sY(look:Int):List Int:=(jq look).map λ(t:Nat)=>(t:Int)
theorem PA{a:Int}(ha:U64 a):NZ N0 (a,())=some ((sY a,()),()):=by
 delta NZ Ap Bd Wi
 simp only[aH]
 simp only[bM,decide_eq_true_eq]
 refine bE (λj=>((),((((List.range j).filter λt=>a.toNat.testBit t).map λ(t:Nat)=>(t:Int)),((j:Int),())))) (λ_=>some ((sY a,()),())) 64 (λj hj K hK=>?_) N0 0 (aC _) (by unfold N0;omega)
 have hfl:((List.range j).filter λt=>a.toNat.testBit t).length<=j:=bu (gA _ _) (by simp)
 rcases ak j 64 with h|h
 ·have c:(j:Int)<=63:=by omega
  have hK:=hK h
  have hj1:IntKind.wrap .i64 ((j:Int)+1)=((j+1:Nat):Int):=bS (by omega:j<1000) (by omega)
  rw[gG,kQ]at hK
  simp only[c,if_true,hj1]
  rw[ae (Pz ha h)]
  simp only
  cases ht:a.toNat.testBit j
  ·simp only[ap,if_false]
   simpa [ht]using hK
  ·simp only[if_true,aM,bD,bJ]
   rw[if_pos (by omega),if_pos (by omega)]
   simpa [ht]using hK
 ·have c:¬(j:Int)<=63:=by omega
  have e:j=64:=by omega
  subst e
  simp only[c,if_false]
  rfl
end
noncomputable section
theorem Fv{g:Grm}(h:(eS g).1=0){L:List ItS}{y:SyS}(hn:Nxs g L y)(hy:y.1=false):0<=y.2/\y.2<(g.1.length:Int):=by
 obtain⟨x,_,hx⟩:=hn
 unfold fV at hx
 split at hx
 ·cases hx
 have hm:=List.mem_of_getElem? hx
 unfold dz at hm
 split at hm
 ·split at hm
  ·rename_i pr hpr
   exact((vL h pr (List.mem_of_getElem? hpr)).2 y hm).1 hy
  ·cases hm
 ·split at hm
  ·rw[aL.1 hm]at hy;cases hy
  ·cases hm
def mvS(nR:Nat)(LR:List Ac)(m:SyS×Int):List Ac:=if m.1.1=false/\m.1.2<(nR:Int)then LR.set m.1.2.toNat (1,m.2)else LR
def jr(nR:Nat)(ms:List (SyS×Int)):List Ac:=ms.foldl (mvS nR) (List.replicate (nR+1) (0,0))
theorem Fw(nR:Nat)(LR:List Ac)(m:SyS×Int):(mvS nR LR m).length=LR.length:=by unfold mvS;split <;> simp
theorem oS(nR:Nat)(ms:List (SyS×Int)):(jr nR ms).length=nR+1:=by
 have key:∀ (ms:List (SyS×Int)) (a:List Ac),(ms.foldl (mvS nR) a).length=a.length:=by
  intro ms
  induction ms with
  |nil=>intro a;rfl
  |cons m ms ih=>intro a;rw[ix,ih,Fw]
 unfold jr
 rw[key];simp
def kE(g:Grm)(i:Nat)(q:Int)(s:RwS)(ts:List Nat):RwS:=ts.foldl (λs t=>stepT g (sw g) (i:Int) q s (atT g.1.length t)) s
def vO(g:Grm)(i:Nat)(s:RwS)(x:ItS):RwS:=kE g i x.1 s (jq x.2.2)
theorem DC(g:Grm)(i:Nat)(q:Int)(s:RwS)(ts:List Nat){j:Nat}(h:j<ts.length):kE g i q s (ts.take (j+1))=stepT g (sw g) (i:Int) q (kE g i q s (ts.take j)) (atT g.1.length ts[j]):=by
 unfold kE
 rw[cM _ _ h,fc];rfl
theorem sx(g:Grm)(i:Nat)(q:Int):∀ (ts:List Nat) (s:RwS),(kE g i q s ts).1.length=s.1.length/\(kE g i q s ts).2.length<=s.2.length+ts.length
 |[],s=>⟨rfl,by simp[kE]⟩
 |t::ts,s=>by
  have h1:=HQ g (sw g) (i:Int) q s (atT g.1.length t)
  have h2:=sx g i q ts (stepT g (sw g) (i:Int) q s (atT g.1.length t))
  have e:kE g i q s (t::ts)=kE g i q (stepT g (sw g) (i:Int) q s (atT g.1.length t)) ts:=rfl
  rw[e,aM]
  omega
theorem xy(look:Int):(jq look).length<=64:=bu (gA _ _) (by simp)
def ig(g:Grm)(i:Nat)(a:List Ac)(wl:List ItS):RwS:=wl.foldl (vO g i) (a,[])
theorem vP(g:Grm)(i:Nat)(a:List Ac)(wl:List ItS){j:Nat}(h:j<wl.length):ig g i a (wl.take (j+1))=vO g i (ig g i a (wl.take j)) wl[j]:=by
 unfold ig
 rw[cM _ _ h,fc];rfl
theorem sA(g:Grm)(i:Nat)(a:List Ac)(wl:List ItS):∀ j,j<=wl.length->(ig g i a (wl.take j)).1.length=a.length/\(ig g i a (wl.take j)).2.length<=j*64
 |0,_=>⟨rfl,by simp[ig]⟩
 |j+1,hj=>by
  have ih:=sA g i a wl j (by omega)
  rw[vP g i a wl (by omega)]
  have h1:=sx g i wl[j].1 (jq wl[j].2.2) (ig g i a (wl.take j))
  have h2:=xy wl[j].2.2
  unfold vO
  omega
def kn(g:Grm)(w:StB)(i:Nat):RwS:=match w.1[i]?,(mvR w.2.1 w.2.2)[i]? with
 |some L,some ms=>ig g i (jr g.1.length ms) (L.filter (jA g))
 |_,_=>(List.replicate (g.1.length+1) (0,0),[])
set_option maxHeartbeats 4000000 in
theorem SH{g:Grm}{w:StB}(t:Trd g w)(gok:GOk g)(hR:g.1.length<=20){i:Nat}(hi:i<w.1.length):
 p51 N0 (g,((w.1,mvR w.2.1 w.2.2),((i:Int),())))=some (((kn g w i).1,((kn g w i).2,())),()):=by
 have hk:=t.okB
 have hmx:=hk.mx
 obtain⟨L,sy,to,g1,g2,g3,g4,g5,g6,g7⟩:=qH hk hi
 have fB:kn g w i=ig g i (jr g.1.length (sy.zip to)) (L.filter (jA g)):=by unfold kn;rw[g1,g4]
 have hsl:=lL g L
 rw[<-g6]at hsl
 have hbd:=(hk.it L (List.mem_of_getElem? g1)).1.bd
 have hw1:IntKind.wrap .i64 ((g.1.length:Int)+1)=((g.1.length+1:Nat):Int):=bS (cF _) (by omega)
 have hwl:(L.filter (jA g)).length<=L.length:=gA _ _
 delta p51 Ld Ap Bd Wi
 simp only[aH]
 simp only[bM,decide_eq_true_eq,hw1,aa]
 rw[if_pos ⟨by omega,by omega⟩,if_pos (by omega),if_neg (by omega)]
 rw[ae (zl _)]
 simp only[decide_eq_true_eq]
 rw[if_neg (by omega)]
 simp only[aJ,if_true,aa,g4]
 have hzl:(sy.zip to).length=sy.length:=by rw[nY];omega
 refine bE (λj=>((jr g.1.length ((sy.zip to).take j),()),((j:Int),()))) (λ_=>some (((kn g w i).1,((kn g w i).2,())),())) (sy.zip to).length (λj hj K hK=>?_) N0 0 (aC _) (by unfold N0;omega)
 rcases ak j (sy.zip to).length with hjl|hjl
 ·have c:(j:Int)<((sy.zip to).length:Int):=by omega
  have hK:=hK hjl
  have hj1:IntKind.wrap .i64 ((j:Int)+1)=((j+1:Nat):Int):=bS hjl (by omega)
  have hst:jr g.1.length ((sy.zip to).take (j+1))=mvS g.1.length (jr g.1.length ((sy.zip to).take j)) (sy.zip to)[j]:=by
   unfold jr
   rw[cM _ _ hjl,fc];rfl
  rw[hst]at hK
  have hal:=oS g.1.length ((sy.zip to).take j)
  have hz:=Fq g5 (by omega:j<sy.length)
  rw[List.getElem?_eq_getElem hjl]at hz
  have hz:=cu hz
  have hjs:j<sy.length:=by omega
  have hms:sy[j]∈bN g L:=by rw[<-g6];exact ba hjs
  have PB:sy[j].1=false->0<=sy[j].2/\sy[j].2<(g.1.length:Int):=Fv t.e0 (((oR g L).mem _).1 hms)
  rw[hz]at hK
  simp only[c,if_true,aJ,aa,List.getElem?_eq_getElem hjl,hj1,hz]
  generalize jr g.1.length ((sy.zip to).take j)=A at *
  generalize sy[j]=y at *
  unfold mvS at hK
  cases hy:y.1
  ·have:=PB hy
   have hlt:y.2.toNat<A.length:=by omega
   have h0:0<=y.2:=this.1
   simp only[aI,if_true,this.2,decide_true,h0,List.getElem?_eq_getElem hlt]
   rw[if_pos ⟨hy,this.2⟩]at hK
   exact hK
  ·rw[if_neg (by rw[hy];simp)]at hK
   simp only[aA,ap,if_false]
   exact hK
 ·have c:¬(j:Int)<((sy.zip to).length:Int):=by omega
  rw[bP hjl]
  simp only[c,if_false]
  rw[ae (LP t g1)]
  simp only[bJ]
  have hal:=oS g.1.length (sy.zip to)
  rw[fB]
  generalize jr g.1.length (sy.zip to)=A0 at *
  generalize hW:L.filter (jA g)=W at *
  have hbW:∀ x∈W,jc x:=λx hx=>hbd x (fh.1 (hW ▸ hx)).1
  clear hK
  refine bE (λk=>(((ig g i A0 (W.take k)).1,()),((ig g i A0 (W.take k)).2,((k:Int),())))) (λ_=>some (((ig g i A0 W).1,((ig g i A0 W).2,())),())) W.length (λk hk' M hM=>?_) N0 0 (aC _) (by unfold N0;omega)
  have hrl:=sA g i A0 W k hk'
  rcases ak k W.length with hkl|hkl
  ·have ck:(k:Int)<(W.length:Int):=by omega
   have hM:=hM hkl
   have hk1:IntKind.wrap .i64 ((k:Int)+1)=((k+1:Nat):Int):=bS hkl (by omega)
   have hx:=hbW _ (ba hkl)
   rw[vP g i A0 W hkl]at hM
   simp only[ck,if_true,aJ,aa,List.getElem?_map,List.getElem?_eq_getElem hkl,cT,hk1]
   generalize ig g i A0 (W.take k)=s at *
   generalize W[k]=x at *
   have hbl:=xy x.2.2
   have hlb:(sY x.2.2).length=(jq x.2.2).length:=by unfold sY;rw[bJ]
   have hU:U64 x.2.2:=hx
   rw[show vO g i s x=kE g i x.1 s (jq x.2.2)from rfl]at hM
   have e3:x.1=(g.2.2.1.length:Int)->((3:Int),x.1)=jn g x.1:=λe=>by unfold jn;rw[if_pos e]
   have e2:¬x.1=(g.2.2.1.length:Int)->((2:Int),x.1)=jn g x.1:=λe=>by unfold jn;rw[if_neg e]
   by_cases hq:x.1=(g.2.2.1.length:Int)
   rw[if_pos hq,e3 hq]
   rotate_left
   rw[if_neg hq,e2 hq]
   all_goals
    rw[ae (PA hU)]
    simp only
    refine bE (λj=>(((kE g i x.1 s ((jq x.2.2).take j)).1,()),((kE g i x.1 s ((jq x.2.2).take j)).2,((j:Int),())))) (λ_=>some (((ig g i A0 W).1,((ig g i A0 W).2,())),())) (jq x.2.2).length (λj hj Q hQ=>?_) N0 0 (aC _) (by unfold N0;omega)
    rcases ak j (jq x.2.2).length with hjl|hjl
    ·have cj:(j:Int)<((sY x.2.2).length:Int):=by omega
     have hQ:=hQ hjl
     have hj1:IntKind.wrap .i64 ((j:Int)+1)=((j+1:Nat):Int):=bS hjl (by omega)
     have hfl:=sx g i x.1 ((jq x.2.2).take j) s
     rw[aN]at hfl
     have hg:(sY x.2.2)[j]?=some (((jq x.2.2)[j]:Nat):Int):=by unfold sY;rw[List.getElem?_map,List.getElem?_eq_getElem hjl];rfl
     rw[DC g i x.1 s _ hjl]at hQ
     simp only[cj,if_true,aJ,aa,hg,hj1]
     generalize kE g i x.1 s ((jq x.2.2).take j)=f at *
     generalize (jq x.2.2)[j]=b at *
     have Yp:f.1.length=g.1.length+1:=by omega
     by_cases h63:b=63
     ·subst h63
      have ea:atT g.1.length 63=g.1.length:=if_pos rfl
      rw[ea]at hQ
      have hlt:g.1.length<f.1.length:=by omega
      have hpl:=vM (i:Int) (g.1.length:Int) x.1 (jn g x.1) f.1[g.1.length] (sw g x.1 g.1.length)
      unfold stepT at hQ
      simp only[List.getElem?_eq_getElem hlt]at hQ
      rw[if_pos (by rfl),if_neg (by omega)]
      simp only[List.getElem?_eq_getElem hlt]
      rw[ae (Fu gok (i:Int) g.1.length f.1[g.1.length] (jn g x.1))]
      simp only[show(jn g x.1).2=x.1 from rfl]
      rw[if_pos (by omega),if_pos (by omega)]
      exact hQ
     ·have ea:atT g.1.length b=b:=if_neg h63
      rw[ea]at hQ
      rw[if_neg (by omega)]
      rcases ak b f.1.length with hlt|hge
      ·have hpl:=vM (i:Int) (b:Int) x.1 (jn g x.1) f.1[b] (sw g x.1 b)
       unfold stepT at hQ
       simp only[List.getElem?_eq_getElem hlt]at hQ
       rw[if_neg (by omega)]
       simp only[aJ,if_true,aa,List.getElem?_eq_getElem hlt]
       rw[ae (Fu gok (i:Int) b f.1[b] (jn g x.1))]
       simp only[show(jn g x.1).2=x.1 from rfl]
       rw[if_pos (by omega),if_pos (by omega)]
       exact hQ
      ·unfold stepT at hQ
       simp only[List.getElem?_eq_none hge]at hQ
       rw[if_pos (by omega)]
       exact hQ
    ·have cj:¬(j:Int)<((sY x.2.2).length:Int):=by omega
     rw[bP hjl]
     simp only[cj,if_false]
     exact hM
  ·have ck:¬(k:Int)<(W.length:Int):=by omega
   rw[bP hkl]
   simp only[ck,if_false]
end
noncomputable section
def ia(g:GrS)(dec:Int->Nat->Int)(st:Int)(s:RwS)(ps:List (Int×Nat)):RwS:=ps.foldl (λs p=>stepT g dec st p.1 s p.2) s
theorem HR(g:GrS)(dec:Int->Nat->Int)(st q:Int)(s:RwS)(t:Nat):∃ c,(stepT g dec st q s t).2=s.2++c:=by
 unfold stepT
 split
 ·exact⟨_,rfl⟩
 ·exact⟨[],by simp⟩
theorem vQ(g:GrS)(dec:Int->Nat->Int)(st:Int):∀ (ps:List (Int×Nat)) (s:RwS),∃ c,(ia g dec st s ps).2=s.2++c
 |[],s=>⟨[],by simp[ia]⟩
 |p::ps,s=>by
  obtain⟨c1,h1⟩:=HR g dec st p.1 s p.2
  obtain⟨c2,h2⟩:=vQ g dec st ps (stepT g dec st p.1 s p.2)
  refine⟨c1++c2,?_⟩
  show(ia g dec st (stepT g dec st p.1 s p.2) ps).2=_
  rw[h2,h1,aO]
theorem HS{st at' q:Int}{now was:Ac}{d:Int}(h:(tm st at' q now was d).2=[]):was.1=0/\(tm st at' q now was d).1=now:=by
 unfold tm at h |-
 by_cases h0:was.1=0
 ·simp[h0]
 ·exfalso
  rw[if_neg h0]at h
  split at h
  ·split at h
   ·simp at h
   ·split at h
    ·simp at h
    ·split at h <;> simp at h
  ·simp at h
theorem sB(g:GrS)(q:Int):2<=(jn g q).1:=by unfold jn;simp only;split <;> omega
theorem pH{g:GrS}{dec:Int->Nat->Int}{st:Int}:∀ (ps:List (Int×Nat)) (a:List Ac),(ia g dec st (a,[]) ps).2=[]->∀ t,t<a.length->
 (∀ q,(q,t)∈ps->(ia g dec st (a,[]) ps).1[t]?=some (jn g q)/\∃ w,a[t]?=some w/\w.1=0)/\((∀ q,¬(q,t)∈ps)->(ia g dec st (a,[]) ps).1[t]?=a[t]?)/\(ps.filter λp=>decide (p.2=t)).length<=1
 |[],a,_,t,_=>⟨λq h=>absurd h bX,λ_=>rfl,aC _⟩
 |p::ps,a,h,t,ht=>by
  obtain⟨q0,u⟩:=p
  have hs:ia g dec st (a,[]) ((q0,u)::ps)=ia g dec st (stepT g dec st q0 (a,[]) u) ps:=rfl
  rw[hs]at h |-
  by_cases hu:u<a.length
  ·have hst:stepT g dec st q0 (a,[]) u=(a.set u (tm st (u:Int) q0 (jn g q0) a[u] (dec q0 u)).1,[]++(tm st (u:Int) q0 (jn g q0) a[u] (dec q0 u)).2):=by
    unfold stepT
    simp only[List.getElem?_eq_getElem hu]
   obtain⟨c,hc⟩:=vQ g dec st ps (stepT g dec st q0 (a,[]) u)
   rw[hc,hst]at h
   simp only[bL,List.append_eq_nil_iff]at h
   obtain⟨h0,h1⟩:=HS h.1
   have Ve:stepT g dec st q0 (a,[]) u=(a.set u (jn g q0),[]):=by rw[hst,h1,h.1];rfl
   rw[Ve]
   have hc':(ia g dec st (a.set u (jn g q0),[]) ps).2=[]:=by
    rw[<-Ve,hc,hst,h.1,h.2];rfl
   have ih:=pH ps (a.set u (jn g q0)) hc' t (by rw[fg];exact ht)
   by_cases e:u=t
   ·subst e
    have pj:(a.set u (jn g q0))[u]?=some (jn g q0):=by rw[List.getElem?_set_self hu]
    have hno:∀ q,¬(q,u)∈ps:=λq hq=>by
     obtain⟨_,w,hw,hw0⟩:=ih.1 q hq
     rw[pj]at hw
     cases hw
     have:=sB g q0
     omega
    refine⟨λq hq=>?_,λhn=>absurd bm (hn q0),?_⟩
    ·rcases ay.1 hq with e|e
     ·cases e
      refine⟨(ih.2.1 hno).trans pj,a[u],List.getElem?_eq_getElem hu,h0⟩
     ·exact absurd e (hno q)
    ·have:(ps.filter λp=>decide (p.2=u))=[]:=by
      rw[List.filter_eq_nil_iff]
      intro p hp hd
      have:p.2=u:=by simpa using hd
      exact hno p.1 (by rw[<-this];exact hp)
     rw[nW,if_pos (by simp),this]
     simp
   ·have pj:(a.set u (jn g q0))[t]?=a[t]?:=by rw[List.getElem?_set,if_neg e]
    rw[pj]at ih
    have iZ:∀ q,(q,t)∈(q0,u)::ps↔(q,t)∈ps:=λq=>by
     rw[ay]
     constructor
     ·rintro(h|h)
      ·cases h;exact absurd rfl e
      ·exact h
     ·exact .inr
    refine⟨λq hq=>ih.1 q ((iZ q).1 hq),λhn=>ih.2.1 λq hq=>hn q ((iZ q).2 hq),?_⟩
    rw[nW,if_neg (by simpa using e)]
    exact ih.2.2
  ·have hst:stepT g dec st q0 (a,[]) u=(a,[]):=by
    unfold stepT
    simp only[List.getElem?_eq_none (by omega:a.length<=u)]
   rw[hst]at h |-
   have ih:=pH ps a h t ht
   have e:¬u=t:=by omega
   have iZ:∀ q,(q,t)∈(q0,u)::ps↔(q,t)∈ps:=λq=>by
    rw[ay]
    constructor
    ·rintro(h|h)
     ·cases h;exact absurd rfl e
     ·exact h
    ·exact .inr
   refine⟨λq hq=>ih.1 q ((iZ q).1 hq),λhn=>ih.2.1 λq hq=>hn q ((iZ q).2 hq),?_⟩
   rw[nW,if_neg (by simpa using e)]
   exact ih.2.2
end
noncomputable section
def B5(nR:Nat)(x:ItS):List (Int×Nat):=(jq x.2.2).map λt=>(x.1,atT nR t)
def prs(nR:Nat)(W:List ItS):List (Int×Nat):=W.flatMap (B5 nR)
theorem B6(g:Grm)(i:Nat)(s:RwS)(x:ItS):vO g i s x=ia g (sw g) (i:Int) s (B5 g.1.length x):=by
 unfold vO kE ia B5
 rw[List.foldl_map]
theorem sZ(g:Grm)(i:Nat):∀ (W:List ItS) (s:RwS),W.foldl (vO g i) s=ia g (sw g) (i:Int) s (prs g.1.length W)
 |[],s=>rfl
 |x::W,s=>by
  rw[ix,sZ g i W,B6]
  unfold prs ia
  rw[jD,fc]
theorem PC(g:GrS)(l:List ItS):(bN g l).Nodup:=(gu (oX g l)).nodup_iff.2 (xq g l).1
theorem xz{nR t:Nat}(ht:t<=nR):∀ (sy:List SyS) (to:List Int) (a:List Ac),to.length=sy.length->sy.Nodup->(∀ y∈sy,y.1=false->0<=y.2)->t<a.length->
 ((sy.zip to).foldl (mvS nR) a)[t]?=if(false,(t:Int))∈sy/\t<nR then some (1,goN sy to (false,(t:Int)))else a[t]?
 |[],to,a,_,_,_,_=>by simp
 |y::sy,[],a,h,_,_,_=>by simp at h
 |y::sy,z::to,a,hl,hnd,hp,ha=>by
  rw[List.zip_cons_cons,ix]
  have Vf:=n5.1 hnd
  have ih:=xz ht sy to (mvS nR a (y,z)) (by simpa using hl) Vf.2 (λy' h=>hp y' (bw _ h)) (by rw[Fw];exact ha)
  rw[ih]
  by_cases e:y=(false,(t:Int))
  ·subst e
   rw[if_neg (λh=>Vf.1 h.1)]
   by_cases h1:t<nR
   ·rw[if_pos ⟨bm,h1⟩]
    have h2:mvS nR a ((false,(t:Int)),z)=a.set t (1,z):=by
     unfold mvS
     simp only[aa]
     rw[if_pos ⟨trivial,by omega⟩]
    have h3:goN ((false,(t:Int))::sy) (z::to) (false,(t:Int))=z:=by
     unfold goN pG
     rw[if_pos rfl];rfl
    rw[h2,h3,List.getElem?_set_self ha]
   ·rw[if_neg (λh=>h1 h.2)]
    have h2:mvS nR a ((false,(t:Int)),z)=a:=by
     unfold mvS
     rw[if_neg (λh=>h1 (by have:=h.2;simp only at this;omega))]
    rw[h2]
  ·have hm:(false,(t:Int))∈y::sy↔(false,(t:Int))∈sy:=by
    rw[ay]
    exact⟨λh=>h.resolve_left λe'=>e e'.symm,.inr⟩
   have h3:goN (y::sy) (z::to) (false,(t:Int))=goN sy to (false,(t:Int)):=by
    unfold goN
    rw[pG,if_neg e,List.getElem?_cons_succ]
   have h2:(mvS nR a (y,z))[t]?=a[t]?:=by
    unfold mvS
    split
    ·rename_i hy
     have h0:=hp y bm hy.1
     rw[List.getElem?_set,if_neg λh=>e (Prod.ext hy.1 (by show y.2=(t:Int);simp only at h;omega))]
    ·rfl
   rw[h2,h3]
   by_cases h4:(false,(t:Int))∈sy/\t<nR
   ·rw[if_pos h4,if_pos ⟨hm.2 h4.1,h4.2⟩]
   ·rw[if_neg h4,if_neg λh=>h4 ⟨hm.1 h.1,h.2⟩]
theorem LS{g:Grm}{w:StB}(t:Trd g w){i:Nat}{L:List ItS}{sy:List SyS}{to:List Int}(hL:w.1[i]?=some L)(h2:w.2.1[i]?=some sy)(h3:w.2.2[i]?=some to){k:Nat}(hk:k<=g.1.length):
 (jr g.1.length (sy.zip to))[k]?=some (if 0<=goW w (i:Int) (false,(k:Int))then(1,goW w (i:Int) (false,(k:Int)))else(0,0)):=by
 have hi:=(List.getElem?_eq_some_iff.1 hL).1
 obtain⟨L',r1,r2,to',r3,r4,r5⟩:=t.okB.row i hi
 rw[hL]at r1;cases r1
 rw[h2]at r2;cases r2
 rw[h3]at r3;cases r3
 have PB:∀ y∈bN g L,y.1=false->0<=y.2/\y.2<(g.1.length:Int):=λy hy=>Fv t.e0 (((oR g L).mem y).1 hy)
 have hgo:goW w (i:Int) (false,(k:Int))=goN (bN g L) to (false,(k:Int)):=by
  unfold goW
  rw[if_neg (by omega),aa,h2,h3]
 unfold jr
 rw[xz hk (bN g L) to _ r4 (PC g L) (λy hy e=>(PB y hy e).1) (by simp;omega),hgo]
 by_cases hm:(false,(k:Int))∈bN g L
 ·have h1:=PB _ hm rfl
  have hp:=qI hm
  obtain⟨t',t1,_⟩:=r5 _ _ hp
  have hz:goN (bN g L) to (false,(k:Int))=(t':Int):=by unfold goN;rw[t1]
  rw[if_pos ⟨hm,by have:=h1.2;simp only at this;omega⟩,hz,if_pos (by omega)]
 ·have hz:goN (bN g L) to (false,(k:Int))=-1:=by
   unfold goN
   rw[tM hm,List.getElem?_eq_none (by omega)]
  rw[if_neg λh=>hm h.1,hz,if_neg (by omega),List.getElem?_replicate,if_pos (by omega)]
def oY(nR k:Nat):Nat:=if k<nR then k else 63
theorem vR{nR:Nat}(h20:nR<=20){x:ItS}(hx:Vd nR x.2.2){q:Int}{k:Nat}(hk:k<=nR):(q,k)∈B5 nR x↔q=x.1/\x.2.2.toNat.testBit (oY nR k)=true:=by
 unfold B5 jq
 simp only[fM,fh,cz]
 constructor
 ·rintro⟨b,⟨hb,ht⟩,e⟩
  injection e with e1 e2
  refine⟨e1.symm,?_⟩
  have:b=oY nR k:=by
   unfold atT at e2
   unfold oY
   rcases hx b ht with h|h
   ·rw[if_neg (by omega)]at e2
    rw[if_pos (by omega)];exact e2
   ·rw[if_pos h]at e2
    rw[if_neg (by omega)];exact h
  rw[<-this];exact ht
 ·rintro⟨rfl,ht⟩
  refine⟨oY nR k,⟨by unfold oY;split <;> omega,ht⟩,?_⟩
  have:atT nR (oY nR k)=k:=by
   unfold atT oY
   by_cases h:k<nR
   ·rw[if_pos h,if_neg (by omega)]
   ·rw[if_neg h,if_pos rfl];omega
  rw[this]
theorem Fx{nR:Nat}{W:List ItS}{p:Int×Nat}:p∈prs nR W↔∃ x∈W,p∈B5 nR x:=dD
def pI(nR k:Nat)(x:ItS):Bool:=x.2.2.toNat.testBit (oY nR k)
theorem count_le{nR:Nat}(h20:nR<=20){k:Nat}(hk:k<=nR):∀ {W:List ItS},o9 nR W->(W.filter (pI nR k)).length<=((prs nR W).filter λp=>decide (p.2=k)).length
 |[],_=>aC _
 |x::W,h=>by
  have ih:=count_le h20 hk (W:=W) λy hy=>h y (bw _ hy)
  have e:prs nR (x::W)=B5 nR x++prs nR W:=rfl
  rw[e,kQ,aj,nW]
  split
  ·rename_i hb
   have hm:(x.1,k)∈(B5 nR x).filter λp=>decide (p.2=k):=fh.2 ⟨(vR h20 (h x bm) hk).2 ⟨rfl,hb⟩,by simp⟩
   have:=nP hm
   rw[aM];omega
  ·omega
theorem LU{g:Grm}{w:StB}(t:Trd g w)(h20:g.1.length<=20){i:Nat}{L:List ItS}(hL:w.1[i]?=some L)(hc:(kn g w i).2=[]){k:Nat}(hk:k<=g.1.length):
 (∀ x∈L.filter (jA g),pI g.1.length k x=true->(kn g w i).1[k]?=some (jn g x.1))/\((L.filter (jA g)).filter (pI g.1.length k)).length<=1/\
 ((∀ x∈L.filter (jA g),pI g.1.length k x=false)->(kn g w i).1[k]?=some (if 0<=goW w (i:Int) (false,(k:Int))then(1,goW w (i:Int) (false,(k:Int)))else(0,0))):=by
 have hi:=(List.getElem?_eq_some_iff.1 hL).1
 obtain⟨L',sy,to,g1,g2,g3,g4,g5,g6,g7⟩:=qH t.okB hi
 rw[hL]at g1;cases g1
 have fB:kn g w i=ia g (sw g) (i:Int) (jr g.1.length (sy.zip to),[]) (prs g.1.length (L.filter (jA g))):=by
  unfold kn ig
  rw[hL,g4]
  exact sZ g i _ _
 rw[fB]at hc |-
 have hlk:o9 g.1.length (L.filter (jA g)):=λx hx=>SG t L (List.mem_of_getElem? hL) x (fh.1 hx).1
 have ht:k<(jr g.1.length (sy.zip to)).length:=by rw[oS];omega
 obtain⟨h1,h2,h3⟩:=pH _ _ hc k ht
 refine⟨λx hx hb=>(h1 x.1 (Fx.2 ⟨x,hx,(vR h20 (hlk x hx) hk).2 ⟨rfl,hb⟩⟩)).1,bu (count_le h20 hk hlk) h3,λhn=>?_⟩
 rw[h2 λq hq=>?_]
 ·exact LS t hL g2 g3 hk
 ·obtain⟨x,hx,hm⟩:=Fx.1 hq
  have:=((vR h20 (hlk x hx) hk).1 hm).2
  have h4:=hn x hx
  unfold pI at h4
  rw[this]at h4;cases h4
end
end Go.Proofs.YtphipehmbefejaaGreat.Rf.Rk
namespace Go.Proofs.YtphipehmbefejaaGreat.Rf
open Go
noncomputable section
def exB:GrI:=([([80,76,85,83],((0:Int),[112])),([88],((0:Int),[120]))],([[69]],([((0:Int),([65,100,100],([(true,0),(false,0),(true,0)],(false,(-1,[0,0]))))),((0:Int),([79,110,101],([(false,1)],(false,(-1,[])))))],([],(0:Int)))))
theorem Vg:p37 N0 (exB,())=some ((0,(0,(0,()))),()):=by kernel_rfl
def okB(g:GrI):Bool:=g.1.all (λr=>(r.1.all λc=>decide (0<=c/\c<=255))&&(r.2.2.all λc=>decide (0<=c/\c<=255))&&decide (r.1.length<=100)&&decide (r.2.2.length<=12))&&g.2.1.all (λs=>(s.all λc=>decide (0<=c/\c<=255))&&decide (s.length<=100))
 &&g.2.2.1.all (λp=>(p.2.1.all λc=>decide (0<=c/\c<=255))&&decide (p.2.1.length<=100)&&decide (p.2.2.1.length<=100)&&decide (p.2.2.2.2.2.length<=100))&&decide (g.1.length<=100)&&decide (g.2.1.length<=100)&&decide (g.2.2.1.length<=100)&&g.2.2.2.1.isEmpty
theorem SI{g:GrI}(h:okB g=true):tk g/\∀ r∈g.1,r.2.2.length<=12:=by
 unfold okB at h
 simp only[ag,decide_eq_true_eq,cD]at h
 obtain⟨⟨⟨⟨⟨⟨h1,h2⟩,h3⟩,h4⟩,h5⟩,h6⟩,h7⟩:=h
 have h7:g.2.2.2.1=[]:=by simpa using h7
 have hm:∀ n:Nat,n<=100->n<=maxLen:=λn hn=>by unfold maxLen;omega
 refine⟨⟨by omega,λr hr=>?_,by omega,λs hs=>?_,by omega,λp hp=>?_,λp hp=>?_,λp hp=>?_,by rw[h7];simp,λl hl=>?_⟩,λr hr=>(h1 r hr).2⟩
 ·obtain⟨⟨⟨a1,a2⟩,a3⟩,a4⟩:=h1 r hr
  exact⟨a1,hm _ a3,a2,hm _ (by omega)⟩
 ·exact⟨(h2 s hs).1,hm _ (h2 s hs).2⟩
 ·exact⟨(h3 p hp).1.1.1,hm _ (h3 p hp).1.1.2⟩
 ·have:=(h3 p hp).1.2;omega
 ·have:=(h3 p hp).2;omega
 ·rw[h7]at hl;cases hl
theorem X2{g:GrI}(h:okB g=true)(h2:p37 N0 (g,())=some ((0,(0,(0,()))),())):∃ a b,p43 N0 (g,())=some (((0,(a,b)),()),()):=by
 obtain⟨ok,h12⟩:=SI h
 have h31:=KQ ok h12
 have h13:=KR ok
 rw[h2]at h13
 have h3:=(Prod.mk.inj (Prod.mk.inj (cu h13)).1).1
 refine⟨(eS g).2.1,(eS g).2.2,h31.trans ?_⟩
 rw[show eS g=((eS g).1,((eS g).2.1,(eS g).2.2))from rfl,<-h3]
set_option maxRecDepth 100000 in
theorem PD:p9 N0 ()=some ((true,()),()):=by
 obtain⟨a,b,h⟩:=X2 (g:=exB) (by decide) Vg
 delta p9 Bd
 show ah (p12 N0 (exB,())) _=_
 rw[show p12 N0 (exB,())=_ from by
  delta p12 Ld Ap Bd Wi
  simp only
  rw[ae h]]
 kernel_rfl
end
end Go.Proofs.YtphipehmbefejaaGreat.Rf
namespace Go.Proofs.YtphipehmbefejaaGreat.Rf.Rk
open Go Go.Proofs.YtphipehmbefejaaGreat.Rf
noncomputable section
def wv(g:Grm)(w:StB)(n:Nat):List (List Ac):=(List.range n).map λi=>(kn g w i).1
def pt(g:Grm)(w:StB)(n:Nat):List Cla:=(List.range n).flatMap λi=>(kn g w i).2
theorem B7(g:Grm)(w:StB)(n:Nat):(wv g w n).length=n:=by unfold wv;simp
theorem HT(g:Grm)(w:StB)(n:Nat):wv g w (n+1)=wv g w n++[(kn g w n).1]:=by unfold wv;rw[gG,dO];rfl
theorem xA(g:Grm)(w:StB)(n:Nat):pt g w (n+1)=pt g w n++(kn g w n).2:=by unfold pt;rw[gG,gD];simp
theorem LV(g:Grm)(w:StB){n i:Nat}(h:i<n):(wv g w n)[i]?=some (kn g w i).1:=by unfold wv;simp[h]
theorem LW{g:Grm}{w:StB}{n i:Nat}(h:pt g w n=[])(hi:i<n):(kn g w i).2=[]:=by
 unfold pt at h
 rw[List.flatMap_eq_nil_iff]at h
 exact h i (by simpa using hi)
theorem vS{g:Grm}{w:StB}(t:Trd g w){i:Nat}(hi:i<w.1.length):(kn g w i).1.length=g.1.length+1/\(kn g w i).2.length<=20000:=by
 obtain⟨L,sy,to,g1,g2,g3,g4,g5,g6,g7⟩:=qH t.okB hi
 have hwl:(L.filter (jA g)).length<=L.length:=gA _ _
 have:=sA g i (jr g.1.length (sy.zip to)) (L.filter (jA g)) _ (ar _)
 rw[cE,oS]at this
 have fB:kn g w i=ig g i (jr g.1.length (sy.zip to)) (L.filter (jA g)):=by unfold kn;rw[g1,g4]
 rw[fB]
 omega
theorem B8{g:Grm}{w:StB}(t:Trd g w):∀ n,n<=w.1.length->(pt g w n).length<=n*20000
 |0,_=>aC _
 |n+1,h=>by
  have ih:=B8 t n (by omega)
  have:=(vS t (i:=n) (by omega)).2
  rw[xA,aj]
  omega
theorem SJ{g:Grm}{w:StB}(t:Trd g w)(gok:GOk g)(hR:g.1.length<=20):p13 N0 (g,((w.1,mvR w.2.1 w.2.2),()))=some ((wv g w w.1.length,(pt g w w.1.length,())),()):=by
 have hmx:=t.okB.mx
 delta p13 Ap Bd Wi
 simp only[aH]
 simp only[bM,decide_eq_true_eq]
 rw[ae (zl _)]
 simp only
 refine bE (λj=>((),(wv g w j,(pt g w j,((j:Int),()))))) (λ_=>some ((wv g w w.1.length,(pt g w w.1.length,())),())) w.1.length (λj hj K hK=>?_) N0 0 (aC _) (by unfold N0;omega)
 rcases ak j w.1.length with hjl|hjl
 ·have c:(j:Int)<(w.1.length:Int):=by omega
  have hK:=hK hjl
  have hj1:IntKind.wrap .i64 ((j:Int)+1)=((j+1:Nat):Int):=bS hjl (by omega)
  have h1:=B7 g w j
  have h2:=B8 t j hj
  have h3:=vS t hjl
  rw[HT,xA]at hK
  simp only[c,if_true,hj1]
  rw[ae (SH t gok hR hjl)]
  simp only[aM,bD]
  rw[if_pos (by omega),if_pos (by omega),if_pos (by omega),if_pos (by omega)]
  exact hK
 ·have c:¬(j:Int)<(w.1.length:Int):=by omega
  have e:j=w.1.length:=by omega
  subst e
  simp only[c,if_false]
theorem Vh{k:Nat}(hk:k<63):IntKind.wrap .u64 (1*2 ^ (Nat.min (Int.toNat (IntKind.wrap .u64 (k:Int))) (IntKind.bits .u64)))=kj (k:Int):=by
 have hb:=pD (k:Int)
 unfold kj at hb |-
 have hw:IntKind.wrap .u64 (k:Int)=(k:Int):=wrap_u64 ⟨by omega,by omega⟩
 have hm:Nat.min (k:Int).toNat (IntKind.bits .u64)=(k:Int).toNat:=cS (by show(k:Int).toNat<=64;omega)
 rw[hw,hm]
 rw[if_pos (by omega)]at hb |-
 rw[show(1:Int)*2 ^ (k:Int).toNat=((2 ^ (k:Int).toNat:Nat):Int) by simp,wrap_u64 hb]
theorem SK:(9223372036854775808:Int)=kj ((63:Nat):Int):=by rfl
set_option maxHeartbeats 4000000 in
theorem PE{g:Grm}(h:WfT y32 g):p4 N0 (g,())=some ((true,()),()):=by
 obtain⟨w,b,e1,e2⟩:=Pq h
 have gok:=P4 h
 delta p4 Ld Bd Wi
 simp only
 rw[ae PD]
 simp only[aH]
 simp only[bM,decide_eq_true_eq,aA,ap,if_false]
 rw[ae e1]
 simp only
 cases b
 ·simp only[aI,if_true]
 have t:=e2 rfl
 have hmx:=t.okB.mx
 have hR:=t.r20
 simp only[aA,ap,if_false]
 rw[ae t.p18]
 simp only[decide_true,aA,ap,if_false]
 rw[ae (SJ t gok hR)]
 simp only
 rw[ae (zl _)]
 simp only[B7]
 by_cases hcl:(0:Int)<((pt g w w.1.length).length:Int)
 ·rw[if_pos hcl,if_pos trivial];rfl
 rw[if_neg hcl]
 have hC:pt g w w.1.length=[]:=kM.1 (by omega)
 rw[ae (zl _)]
 simp only[decide_true,aA,ap,if_false]
 refine bE (λj=>((),((j:Int),()))) (λ_=>some ((true,()),())) w.1.length (λi hi K hK=>?_) N0 0 (aC _) (by unfold N0;omega)
 rcases ak i w.1.length with hil|hil
 case inr=>
  have c:¬(i:Int)<(w.1.length:Int):=by omega
  simp only[c,if_false]
 have c:(i:Int)<(w.1.length:Int):=by omega
 have hK:=hK hil
 have hi1:IntKind.wrap .i64 ((i:Int)+1)=((i+1:Nat):Int):=bS hil (by omega)
 obtain⟨L,sy,to,g1,g2,g3,g4,g5,g6,g7⟩:=qH t.okB hil
 have Ql:=LW hC hil
 have hrl:=(vS t hil).1
 have hw1:IntKind.wrap .i64 ((g.1.length:Int)+1)=((g.1.length+1:Nat):Int):=bS (cF _) (by omega)
 have hbd:=(t.okB.it L (List.mem_of_getElem? g1)).1.bd
 simp only[c,if_true,aJ,aa,LV g w hil,hi1,hw1,hrl,decide_true,aA,ap,if_false]
 rw[ae (LP t g1)]
 simp only[bJ]
 have xe:=λk hk=>LU t hR g1 Ql (k:=k) hk
 have hWl:(L.filter (jA g)).length<=L.length:=gA _ _
 have hbW:∀ x∈L.filter (jA g),jc x:=λx hx=>hbd x (fh.1 hx).1
 generalize L.filter (jA g)=W at *
 generalize hA:(kn g w i).1=A at *
 refine bE (λj=>((),((j:Int),()))) (λ_=>some ((true,()),())) (g.1.length+1) (λk hk Q hQ=>?_) N0 0 (aC _) (by unfold N0;omega)
 rcases ak k (g.1.length+1)with hkl|hkl
 case inr=>
  have ck:¬(k:Int)<((g.1.length+1:Nat):Int):=by omega
  simp only[ck,if_false]
  exact hK
 have ck:(k:Int)<((g.1.length+1:Nat):Int):=by omega
 have hQ:=hQ hkl
 have hk1:IntKind.wrap .i64 ((k:Int)+1)=((k+1:Nat):Int):=bS hkl (by omega)
 have hkA:k<A.length:=by omega
 obtain⟨f1,f2,f3⟩:=xe k (by omega)
 rw[List.getElem?_eq_getElem hkA]at f1 f3
 have hu:¬IntKind.wrap .u64 (k:Int)<0:=by rw[wrap_u64 ⟨by omega,by omega⟩];omega
 simp only[ck,if_true,aJ,aa,List.getElem?_eq_getElem hkA,hk1,hu,if_false]
 generalize A[k]=a at *
 have hbt:oY g.1.length k<64:=by unfold oY;split <;> omega
 have hb1:k<g.1.length->kj (k:Int)=kj ((oY g.1.length k:Nat):Int):=λh=>by unfold oY;rw[if_pos h]
 have hb2:¬k<g.1.length->(9223372036854775808:Int)=kj ((oY g.1.length k:Nat):Int):=λh=>by unfold oY;rw[if_neg h];exact SK
 by_cases hkr:(k:Int)<(g.1.length:Int)
 rw[if_pos hkr,Vh (by omega),hb1 (by omega)]
 rotate_left
 rw[if_neg hkr,hb2 (by omega)]
 all_goals
  refine bE (λm=>((),(((((W.take m).filter (pI g.1.length k)).length:Nat):Int),((m:Int),())))) (λ_=>some ((true,()),())) W.length (λm hm R hRR=>?_) N0 0 (aC _) (by unfold N0;omega)
  have hfl:((W.take m).filter (pI g.1.length k)).length<=m:=bu (gA _ _) (by rw[aN];omega)
  rcases ak m W.length with hml|hml
  ·have cm:(m:Int)<(W.length:Int):=by omega
   have hRR:=hRR hml
   have hm1:IntKind.wrap .i64 ((m:Int)+1)=((m+1:Nat):Int):=bS hml (by omega)
   have hU:U64 W[m].2.2:=hbW _ (ba hml)
   have hand:=B4 hU hbt
   have hfm:=f1 W[m] (ba hml)
   rw[sX _ _ hml]at hRR
   have hc1:IntKind.wrap .i64 ((((W.take m).filter (pI g.1.length k)).length:Int)+1)=((((W.take m).filter (pI g.1.length k)).length+1:Nat):Int):=bS (cF _) (by omega)
   simp only[cm,if_true,aJ,aa,List.getElem?_map,List.getElem?_eq_getElem hml,cT,hm1,hc1]
   cases hb:pI g.1.length k W[m]
   ·have hz:=hand.2 hb
    rw[hb]at hRR
    simp only[hz,decide_true,aA,ap,if_false]
    simpa using hRR
   ·have hz:¬dK .and .u64 W[m].2.2 (kj ((oY g.1.length k:Nat):Int))=0:=λe=>by
     have h1:=hand.1 e
     have h2:W[m].2.2.toNat.testBit (oY g.1.length k)=true:=hb
     rw[h1]at h2;cases h2
    have ha:=cu (hfm hb)
    have hkd:=sB g W[m].1
    rw[<-ha]at hkd
    have ha2:a.2=W[m].1:=by rw[ha];rfl
    rw[hb]at hRR
    have hn2:¬a.1<2:=by omega
    simp only[hz,decide_false,aI,if_true,hn2,if_false,ha2,decide_true,aA,ap]
    simpa using hRR
  ·have cm:¬(m:Int)<(W.length:Int):=by omega
   have em:m=W.length:=by omega
   subst em
   rw[cE]at hfl |-
   simp only[cm,if_false]
   rw[ae (SA t.okB (i:Int) (false,(k:Int)))]
   simp only
   have hn1:¬(1:Int)<(((W.filter (pI g.1.length k)).length:Nat):Int):=by omega
   rw[if_neg hn1]
   by_cases h0:(((W.filter (pI g.1.length k)).length:Nat):Int)=0
   ·have fu:∀ x∈W,pI g.1.length k x=false:=λx hx=>by
     have:=List.filter_eq_nil_iff.1 (kM.1 (by omega:(W.filter (pI g.1.length k)).length=0)) x hx
     simpa using this
    have ha:=cu (f3 fu)
    generalize goW w (i:Int) (false,(k:Int))=z at *
    by_cases hz:0<=z
    ·rw[if_pos hz]at ha
     subst ha
     simp[h0,hz]
     exact hQ
    ·rw[if_neg hz]at ha
     subst ha
     simp[h0,hz]
     exact hQ
   ·have hne:∃ x,x∈W.filter (pI g.1.length k):=List.exists_mem_of_length_pos (by omega)
    obtain⟨x,hx⟩:=hne
    obtain⟨hx1,hx2⟩:=fh.1 hx
    have ha:=cu (f1 x hx1 hx2)
    have hkd:=sB g x.1
    rw[<-ha]at hkd
    have hn2:¬a.1=1:=by omega
    rw[if_neg h0,if_neg h0,if_neg hn2]
    exact hQ
end
end Go.Proofs.YtphipehmbefejaaGreat.Rf.Rk
namespace Go.Proofs.YtphipehmbefejaaGreat
open Go Go.ChangeShapes Go.WideShapes Go.ChangeAt Go.RowKit Go.Proofs.YtphipehmbefejaaGreat.Rf
noncomputable section
theorem vT:ownKnob Tryz.prog.godebug=none:=by kernel_rfl
theorem tp:laidOutB Tryz.prog=true:=by kernel_rfl
set_option maxRecDepth 100000 in
theorem qJ(os:Os)(started:os.Started)(H:Type)(enc:TypeId×Value->H):
 ReturnsInHanded {} Tryz.checked os 4 .any (Rows.resolveOneSpec.pre6 enc Tryz.prog Tryz.f4 Rows.resolveOneRow.domain false) (Rows.resolveOneSpec.post enc Tryz.prog Tryz.f4 false true false false):=by
 refine returnsInHanded_of_change (C:=Tryz.checked) vT started (by kernel_rfl) Tryz.func4
  (ChangeSpec.witness6 (enc:=enc) (C:=Tryz.checked) false ⟨#[],#[.agg #[.slice none 0 0,.slice none 0 0,.slice none 0 0,.slice none 0 0,.int .i64 0]],[]⟩ 8 (by kernel_rfl) (by kernel_rfl) (by kernel_rfl) (by kernel_rfl)) ?_
 intro W base args ds gs before Vi hW0 Yq _
 have hW:DataW.Whole enc Tryz.prog Tryz.f4.params.toList Rows.resolveOneSpec.vars false W args.toList ds gs before:=hW0
 have QB:∀ (j:Nat) t v,Tryz.f4.params.toList[j]?=some t->args[j]?=some v->Value.okWide Tryz.prog W .any base t v:=λj t v h1 h2=>Vi j t v (by simpa using h1) h2
 have hA:∃ p,DataW.TrodAll enc Tryz.prog W 0 (λ_=>true) true Tryz.f4.params.toList args.toList ds p:=by
  obtain⟨p,q,hA0,_⟩:=hW
  exact⟨p,hA0⟩
 obtain⟨p,hA⟩:=hA
 refine(GN Jp (ok4 N0) (λx hx=>by obtain⟨g,u⟩:=x;exact Rk.PE hx.1) (n:=12) (ts:=Tryz.f4.params.toList) (by rw[Tryz.params4];rfl) hA QB (λp hp=>by cases hp)).mono λe W' he=>?_
 obtain⟨he,hb⟩:=he
 exact⟨.bool true,he,Jo tp (s:=Rows.resolveOneSpec) rfl ⟨4,by kernel_rfl,Tryz.underlying4⟩ (λds hd=>by rw[Tryz.params4]at hd;match ds,hd with|[_],_=>rfl) (by rw[Tryz.params4];kernel_rfl) hW hb⟩
theorem resolveOne_holds:Rows.ResolveOneSaid:=
 OpenClaim.holds_of_wide 4 Tryz.f4 rfl rfl rfl rfl rfl rfl rfl ⟨rfl,rfl,rfl,rfl,rfl⟩ rfl rfl rfl rfl rfl (by kernel_rfl) Tryz.func4 (by kernel_rfl)
  (of_decide_eq_true (by kernel_rfl)) (by unfold Func.isWrapper;first|(rw[if_pos (by decide +kernel)];kernel_rfl)|(rw[if_neg (by decide +kernel)];exact⟨rfl,rfl⟩))
  (λos started H enc _=>qJ os started H enc)
end
end Go.Proofs.YtphipehmbefejaaGreat
