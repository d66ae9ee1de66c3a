/- A part of a proof that a given statement (the one of this claim: the name of its theorem ends in _holds) is true of the program, with no condition ahead of it. Printed by wip/dev/pack2.py out of the texts in wip. -/
import Derived.Test.YtphipehmbefejaaGreatU4
set_option linter.unusedVariables false
set_option linter.unusedSimpArgs false
namespace Go.Proofs.YtphipehmbefejaaGreat.Rf
open Go
noncomputable section
theorem Ja{s:List Int}(hb:Bytes s)(hs:s.length<=1600):∀ (n D i d:Nat),4*n<=D->s.length-i<n->i<=s.length->d<=i->OkP s d (2*(s.length-i)) (iV s n i d) ((cC N0 D).1 (kst s i d,())):=by
 intro n
 induction n with
 |zero=>intro D i d _ h;omega
 |succ n ih=>
  intro D i d hD hn hi hd
  obtain⟨D,rfl⟩:∃ q,D=q+1+1+1+1:=⟨D-4,by omega⟩
  have bR:∀ i d,s.length-i<n->iW s i (iV s n i d):=λi d h=>iP hb n i d h
  have dA:∀ j,i<=j->j<=s.length->OkP s d (2*(s.length-j)) (kK (iV s n) s j d) ((cC N0 (D+1)).2.2.2 (kst s j d,())):=λj hij hj=>
   I6 (q2:=(cC N0 (D)).1) (q3:=(cC N0 (D)).2.1) (q4:=(cC N0 (D)).2.2.1) (q5:=(cC N0 (D)).2.2.2) hb hs (bn hd hij) (λhlt=>ih D (j+1) (d+1) (by omega) (by omega) (by omega) (by omega)) (λt j2 h=>by
    rcases av j s.length with hlt|hge
    ·exact bR (j+1) (d+1) (by omega) t j2 h
    ·cases n with
     |zero=>cases h
     |succ n=>exact iP hb (n+1) (j+1) (d+1) (by omega) t j2 h)
  have Bd:∀ j,i<=j->iW s (j+1) (iV s n (j+1) (d+1)):=λj hij t j2 h=>by
   rcases av j s.length with hlt|hge
   ·exact bR (j+1) (d+1) (by omega) t j2 h
   ·cases n with
    |zero=>cases h
    |succ n=>exact iP hb (n+1) (j+1) (d+1) (by omega) t j2 h
  have bh:∀ j,i<=j->j<=s.length->OkP s d 0 (jl (iV s n) s j d) ((cC N0 (D+1+1)).2.2.1 (kst s j d,())):=λj hij hj=>
   Bc (q2:=(cC N0 (D+1)).1) (q3:=(cC N0 (D+1)).2.1) (q4:=(cC N0 (D+1)).2.2.1) (q5:=(cC N0 (D+1)).2.2.2) hb hs (dA j hij hj) (q8 hb (Bd j hij))
  have tZ:∀ j,i<=j->j<=s.length->OkP s d (2*(s.length-j)) (jV (iV s n) s j d) ((cC N0 (D+1+1+1)).2.1 (kst s j d,())):=λj hij hj=>
   I8 (q2:=(cC N0 (D+1+1)).1) (q3:=(cC N0 (D+1+1)).2.1) (q4:=(cC N0 (D+1+1)).2.2.1) (q5:=(cC N0 (D+1+1)).2.2.2) hb hs hj (λj2 hj2 hj3=>bh j2 (bn hij hj2) hj3) (λj2 hj2=>nE hb (Bd j2 (bn hij hj2)))
  exact I9 (q2:=(cC N0 (D+1+1+1)).1) (q3:=(cC N0 (D+1+1+1)).2.1) (q4:=(cC N0 (D+1+1+1)).2.2.1) (q5:=(cC N0 (D+1+1+1)).2.2.2) hb hs hi tZ (λj hij t j2 h=>nF hb n bR (by omega) t j2 h)
def DC(o:Except Int Rx):(List Pc×(Int×Unit))×Unit:=match o with
 |.ok t=>((t.post,(0,())),())
 |.error e=>(([],(e,())),())
theorem DD{s:List Int}(hb:Bytes s)(hsm:s.length<=maxLen):p60 N0 (s,())=some (DC (fk s)):=by
 unfold p60 fk
 dsimp only
 by_cases hs:1600<s.length
 ·rw[if_pos hs,decide_eq_true (show(1600:Int)<((s.length:Nat):Int) by omega),cond_true]
  rfl
 rw[if_neg hs,decide_eq_false (show ¬(1600:Int)<((s.length:Nat):Int) by omega),cond_false]
 have hq:OkP s ((0:Nat):Int) (2*(s.length-0)) (iV s s.length.succ 0 0) (IG N0 (kst s 0 ((0:Nat):Int),())):=Ja hb (by omega) s.length.succ N0 0 0 (by unfold N0;omega) (by omega) (bT _) (ar _)
 have hk:kst s 0 ((0:Nat):Int)=(s,((0:Int),(0:Int))):=rfl
 rw[hk]at hq
 unfold OkP at hq
 cases ho:iV s s.length.succ 0 0 with
 |none=>
  rw[ho]at hq
  obtain⟨r,k,hq,_⟩:=hq
  rw[aa hq]
  rfl
 |some p=>
  obtain⟨t,i⟩:=p
  rw[ho]at hq
  simp only at hq
  rw[aa hq]
  simp only[bA,az,cond_false]
  have h1:decide ((kst s i ((0:Nat):Int)).2.1<((s.length:Nat):Int))=decide (i<s.length):=by
   rw[decide_eq_decide];show(i:Int)<_↔_;omega
  rw[h1]
  by_cases h2:i<s.length
  ·rw[if_pos h2,decide_eq_true h2];rfl
  rw[if_neg h2,decide_eq_false h2,cond_false]
  rw[t.aN]
  by_cases h3:400<t.len
  ·rw[if_pos h3,decide_eq_true (show(400:Int)<((t.len:Nat):Int) by omega)];rfl
  ·rw[if_neg h3,decide_eq_false (show ¬(400:Int)<((t.len:Nat):Int) by omega)];rfl
theorem o3{s:List Int}(hb:Bytes s){t:Rx}(h:fk s=.ok t):t.ok/\t.len<=400/\t.len+1<=2*s.length:=by
 unfold fk at h
 split at h
 ·cases h
 split at h
 ·cases h
 rename_i t2 i ho
 obtain⟨h1,h2,h3,h4⟩:=iP hb _ _ _ (by omega) _ _ ho
 split at h
 ·cases h
 split at h
 ·cases h
 injection h with h
 subst h
 exact⟨h4,by omega,by omega⟩
end
noncomputable section
theorem aQ{A R:Type}{J:A->Option R}{body:(A->Option R)->Option R}(x:A)(h:∀ K,body K=K x){r:Option R}(hr:J x=r):aq J body=r:=(h J).trans hr
theorem dw{A R:Type}{P:Option R->Prop}{J:A->Option R}{body:(A->Option R)->Option R}(x:A)(h:∀ K,body K=K x)(hr:P (J x)):P (aq J body):=by
 show P (body J)
 rw[h J];exact hr
def Gr(l:List Int)(c:Int):Bool:=l.any λb=>decide (b=c)
theorem DE(l:List Int)(c:Int):Gr l c=decide (c∈l):=by
 unfold Gr
 rw[cY,fJ,decide_eq_true_eq]
 constructor
 ·rintro⟨b,hb,h⟩
  rw[decide_eq_true_eq]at h
  exact h ▸ hb
 ·intro h
  exact⟨c,h,by simp⟩
theorem Gs(l:List Int)(hl:l.length<=maxLen)(c:Int):xH N0 (l,(c,()))=some ((decide (c∈l),()),()):=by
 unfold xH
 simp only
 rw[<-DE]
 refine ba (λm x r=>∃ j:Nat,x=((),((j:Int),()))/\m+j=l.length/\r=some ((Gr (l.drop j) c,()),())) ?_ N0 l.length _ _ (by have:=pA hl;omega) ⟨0,rfl,rfl,by rw[da]⟩
 rintro m x r ⟨j,rfl,hm,rfl⟩ k hk
 simp only
 rcases av j l.length with hj|hj
 ·have n1:(0:Int)<=(j:Int):=by omega
  rw[decide_eq_true (show(j:Int)<((l.length:Nat):Int) by omega),cond_true,if_pos n1,af,au hj]
  simp only[bg hj hl]
  unfold Gr
  rw[dB hj,List.any_cons]
  cases hd:decide (l[j]=c)
  ·rw[cond_false,cR]
   exact hk (m-1) _ _ (by omega) ⟨j+1,rfl,by omega,rfl⟩
  ·rw[cond_true,jC]
 ·rw[decide_eq_false (show ¬(j:Int)<((l.length:Nat):Int) by omega),cond_false,jv hj]
  rfl
theorem nH(l:List Int)(hl:l.length<=maxLen)(c:Int):xG N0 (l,(c,()))=some ((decide (c∈l),()),()):=by
 have:xG=xH:=rfl
 rw[this];exact Gs l hl c
def o4(n:Nat):Int:=if n<10 then 48+(n:Int)else 87+(n:Int)
def DF(c:Nat):List Int:=if c=10 then [92,110]else if c=9 then [92,116]else if c=13 then [92,114]else
 if c<32\/126<c then [92,120,o4 (c / 16),o4 (c % 16)]else if c=92 then [92,92]else [(c:Int)]
theorem DG:∀ c:Fin 256,IH N0 (((c.val:Nat):Int),(([]:List Int),()))=some ((DF c.val,()),()):=by decide +kernel
theorem DH{c:Nat}(h:c<256):IH N0 ((c:Int),(([]:List Int),()))=some ((DF c,()),()):=DG ⟨c,h⟩
theorem DI:∀ c:Fin 256,F4 N0 (((c.val:Nat):Int),())=some ((kE ((c.val:Nat):Int),()),()):=by decide +kernel
theorem Gt{c:Int}(h:0<=c/\c<=255):F4 N0 (c,())=some ((kE c,()),()):=by
 have:=DI ⟨c.toNat,by omega⟩
 simp only[cF h.1]at this
 exact this
def KT:List Int:=[48,49,50,51,52,53,54,55,56,57,97,98,99,100,101,102]
theorem wo:∀ q:Fin 16,bZ KT ((q.val:Nat):Int) (((q.val+1:Nat)):Int)=[o4 q.val]:=by decide +kernel
theorem DJ:∀ q:Fin 16,nB (o4 q.val)=some ((q.val:Nat):Int):=by decide +kernel
theorem sB{q:Nat}(h:q<16):nB (o4 q)=some (q:Int):=DJ ⟨q,h⟩
theorem sC{h v:Int}(e:nB h=some v):o4 v.toNat=h:=by
 unfold nB at e
 unfold o4
 split at e
 ·injection e with e
  rw[if_pos (by omega)];omega
 ·split at e
  ·injection e with e
   rw[if_neg (by omega)];omega
  ·cases e
def mA(s:List Int)(c:Nat):Bool:=(decide (c=10)&&decide (s[1]?=some 110))||(decide (c=9)&&decide (s[1]?=some 116))||(decide (c=13)&&decide (s[1]?=some 114))
def mB(s:List Int)(c:Nat):Bool:=decide (s[1]?=some 120)&&(decide (s[2]?=some (o4 (c / 16)))&&decide (s[3]?=some (o4 (c % 16))))
theorem KU{r:List Int}{c:Nat}(h:mA (92::r) c=true):rdS (92::r)=some ((c:Int),2):=by
 unfold mA at h
 cases r with
 |nil=>simp at h
 |cons d r2=>
  simp only[jr,jq,aW,aR,ag,decide_eq_true_eq]at h
  rcases h with(⟨rfl,rfl⟩|⟨rfl,rfl⟩)|⟨rfl,rfl⟩ <;> rfl
theorem KW{r:List Int}{c:Nat}(hc:c<256)(h:mB (92::r) c=true):rdS (92::r)=some ((c:Int),4):=by
 unfold mB at h
 match r with
 |[]=>simp at h
 |[d]=>simp at h
 |[d,x]=>simp at h
 |d::x::y::r4=>
  simp only[jr,jq,aW,ag,decide_eq_true_eq]at h
  obtain⟨rfl,rfl,rfl⟩:=h
  have e1:=sB (q:=c / 16) (by omega)
  have e2:=sB (q:=c % 16) (by omega)
  simp only[rdS]
  rw[e1,e2]
  have:(16:Int)*((c / 16:Nat):Int)+((c % 16:Nat):Int)=(c:Int):=by omega
  simp
  omega
def DK(s:List Int):Option (Int×Nat):=match s[1]? with
 |some d=>if 32<=d/\d<=126/\kE d=false then some (d,2)else none
 |none=>none
theorem Gu{r:List Int}(hA:∀ c,c<256->mA (92::r) c=false)(hB:∀ c,c<256->mB (92::r) c=false):rdS (92::r)=DK (92::r):=by
 match r with
 |[]=>rfl
 |d::r2=>
  have a1:=hA 10 (by omega)
  have a2:=hA 9 (by omega)
  have a3:=hA 13 (by omega)
  simp only[mA,jr,jq,aW]at a1 a2 a3
  have d1:¬d=110:=by simpa using a1
  have d2:¬d=116:=by simpa using a2
  have d3:¬d=114:=by simpa using a3
  simp only[rdS,DK,jr,jq,ne_eq,not_true_eq_false,if_false,d1,d2,d3]
  by_cases d4:d=120
  ·subst d4
   rw[if_pos rfl]
   have hw:¬((32:Int)<=120/\(120:Int)<=126/\kE 120=false):=by decide
   rw[if_neg hw]
   match r2 with
   |[]=>rfl
   |[x]=>rfl
   |x::y::r4=>
    simp only
    cases hx:nB x with
    |none=>rfl
    |some a=>
     cases hy:nB y with
     |none=>rfl
     |some b=>
      exfalso
      have ha:=l9 hx
      have hb:=l9 hy
      have:=hB (16*a+b).toNat (by omega)
      have e1:(16*a+b).toNat / 16=a.toNat:=by omega
      have e2:(16*a+b).toNat % 16=b.toNat:=by omega
      simp[mB,e1,e2,sC hx,sC hy]at this
  ·rw[if_neg d4]
   cases hw:kE d
   ·by_cases h1:32<=d/\d<=126
    ·rw[if_neg (by simp;omega),if_pos ⟨h1.1,h1.2,rfl⟩]
    ·rw[if_pos (by simp;omega),if_neg (λh=>h1 ⟨h.1,h.2.1⟩)]
   ·rw[if_pos (.inl rfl),if_neg (λh=>by cases h.2.2)]
theorem ua{s:List Int}(hb:Bytes s)(hs:s.length<=maxLen):C6 N0 (s,())=some (rdR (rdS s),()):=by
 unfold C6
 dsimp only
 cases s with
 |nil=>rfl
 |cons c r=>
  have e0:decide ((c::r:List Int)=[])=false:=rfl
  have n0:(0:Int)<=0:=by omega
  have g0:(c::r)[((0:Int)).toNat]?=some c:=rfl
  rw[e0,cond_false,if_pos n0,g0]
  simp only[if_pos n0]
  by_cases hc:c=92
  ·subst hc
   simp only[decide_true,az,cond_false]
   refine ba (λm x q=>∃ c:Nat,x=((),((c:Int),()))/\m+c=256/\(∀ c',c' < c->mA (92::r) c'=false/\mB (92::r) c'=false)/\q=some (rdR (rdS (92::r)),())) ?_ N0 256 _ _ (by unfold N0;omega) ⟨0,rfl,rfl,λc' h=>by omega,rfl⟩
   rintro m x q ⟨c,rfl,hm,hP,rfl⟩ k hk
   dsimp only
   rcases av c 256 with hc|hc
   ·have w8:IntKind.wrap .u8 (c:Int)=(c:Int):=iO hc
    rw[decide_eq_true (show(c:Int)<256 by omega),cond_true,w8,aa (DH hc)]
    dsimp only
    refine aQ ((),(mA (92::r) c,())) (λK=>?_) ?_
    ·have wq:decide (bZ (92::r) 0 2=[92,110])=decide ((92::r:List Int)[1]?=some 110)/\decide (bZ (92::r) 0 2=[92,116])=decide ((92::r:List Int)[1]?=some 116)/\decide (bZ (92::r) 0 2=[92,114])=decide ((92::r:List Int)[1]?=some 114):=by
      unfold bZ
      cases r with
      |nil=>exact⟨rfl,rfl,rfl⟩
      |cons d r2=>simp
     have hlen:∀ v:Int,decide (1<(((92::r:List Int).length:Nat):Int))=false->decide ((92::r:List Int)[1]?=some v)=false:=by
      intro v h
      cases r with
      |nil=>rfl
      |cons d r2=>simp at h;omega
     have yP:decide (1<(((92::r:List Int).length:Nat):Int))=true->(0:Int)<=0/\(0:Int)<=2/\(2:Int)<=(((92::r:List Int).length:Nat):Int):=by
      intro h
      rw[decide_eq_true_eq]at h
      omega
     have h12:∀ (v:Int) (b:Bool),v≠92->b=decide ((92::r:List Int)[1]?=some v)->decide (bZ (92::r) 0 2=[92,v])=decide ((92::r:List Int)[1]?=some v)->
      (bif decide ((([92,v]:List Int).length:Int)=2)then(if(0:Int)<=1 then(match([92,v]:List Int)[((1:Int)).toNat]? with|some v12=>(bif(!decide (v12=92))then(bif decide (1<(((92::r:List Int).length:Nat):Int))then(if(0:Int)<=0/\(0:Int)<=2/\(2:Int)<=(((92::r:List Int).length:Nat):Int)then K ((),(decide (bZ (92::r) 0 2=[92,v]),()))else none)else K ((),(false,())))else K ((),(false,())))|none=>none)else none)else K ((),(false,())))=K ((),(b,())):=by
      intro v b hv hb hcu
      have e1:decide ((([92,v]:List Int).length:Int)=2)=true:=rfl
      have e2:([92,v]:List Int)[((1:Int)).toNat]?=some v:=rfl
      have e3:(!decide (v=92))=true:=by simp[hv]
      rw[e1,cond_true,if_pos (show(0:Int)<=1 by omega),e2]
      dsimp only
      rw[e3,cond_true]
      cases hl:decide (1<(((92::r:List Int).length:Nat):Int))
      ·rw[cond_false,hb,hlen v hl]
      ·rw[cond_true,if_pos (yP hl),hcu,hb]
     unfold DF mA
     by_cases h1:c=10
     ·rw[if_pos h1]
      refine h12 110 _ (by decide) ?_ wq.1
      simp[h1]
     rw[if_neg h1]
     by_cases h2:c=9
     ·rw[if_pos h2]
      refine h12 116 _ (by decide) ?_ wq.2.1
      simp[h2]
     rw[if_neg h2]
     by_cases h3:c=13
     ·rw[if_pos h3]
      refine h12 114 _ (by decide) ?_ wq.2.2
      simp[h3]
     rw[if_neg h3]
     have e:((decide (c=10)&&decide ((92::r:List Int)[1]?=some 110))||(decide (c=9)&&decide ((92::r:List Int)[1]?=some 116))||(decide (c=13)&&decide ((92::r:List Int)[1]?=some 114)))=false:=by simp[h1,h2,h3]
     rw[e]
     split
     ·rfl
     split
     ·rfl
     ·rfl
    ·dsimp only
     cases hA:mA (92::r) c
     ·rw[cond_false]
      have w16:IntKind.wrap .i64 (Int.tdiv (c:Int) 16)=((c / 16:Nat):Int):=by
       have:Int.tdiv (c:Int) 16=((c / 16:Nat):Int):=by
        rw[show(16:Int)=((16:Nat):Int) by rfl];exact jB c 16 |>.symm
       rw[this];exact bo (by omega)
      have t16:Int.tmod (c:Int) 16=((c % 16:Nat):Int):=by
       rw[show(16:Int)=((16:Nat):Int) by rfl];exact lL c 16 |>.symm
      have w17:IntKind.wrap .i64 (((c / 16:Nat):Int)+1)=((c / 16+1:Nat):Int):=by rw[<-bo (n:=c / 16+1) (by omega)];rfl
      have w18:IntKind.wrap .i64 (((c % 16:Nat):Int)+1)=((c % 16+1:Nat):Int):=by rw[<-bo (n:=c % 16+1) (by omega)];rfl
      have w19:IntKind.wrap .i64 ((c:Int)+1)=((c+1:Nat):Int):=by rw[<-bo (n:=c+1) (by omega)];rfl
      have c1:=wo ⟨c / 16,by omega⟩
      have c2:=wo ⟨c % 16,by omega⟩
      unfold KT at c1 c2
      dsimp only at c1 c2
      have n16:¬((16:Int)=0):=by omega
      rw[w16,t16,w17,w18,w19,if_neg n16,if_neg n16,if_pos (⟨by omega,by omega,by simp;omega⟩),c1,if_pos (by simp),if_neg n16,if_neg n16,if_pos (⟨by omega,by omega,by simp;omega⟩),c2,if_pos (by simp)]
      refine aQ ((),(mB (92::r) c,())) (λK=>?_) ?_
      ·unfold mB
       match r with
       |[]=>rfl
       |[d]=>simp
       |[d,x]=>simp
       |d::x::y::r4=>
        have l3:decide ((3:Int)<(((92::d::x::y::r4:List Int).length:Nat):Int))=true:=by
         rw[decide_eq_true_eq];simp;omega
        rw[l3,cond_true,if_pos ⟨by omega,by omega,by simp;omega⟩]
        have e:decide (bZ (92::d::x::y::r4) 0 4=[92,120]++[o4 (c / 16)]++[o4 (c % 16)])=(decide (d=120)&&(decide (x=o4 (c / 16))&&decide (y=o4 (c % 16)))):=by
         rw[<-Bool.decide_and,<-Bool.decide_and,decide_eq_decide]
         unfold bZ
         simp
        rw[e]
        simp
      ·dsimp only
       cases hB:mB (92::r) c
       ·rw[cond_false]
        refine hk (m-1) _ _ (by omega) ⟨c+1,rfl,by omega,λc' hc'=>?_,rfl⟩
        by_cases e:c'=c
        ·subst e;exact⟨hA,hB⟩
        ·exact hP c' (by omega)
       ·rw[cond_true,KW hc hB]
        rfl
     ·rw[cond_true,KU hA]
      rfl
   ·have hc2:c=256:=by omega
    subst hc2
    rw[decide_eq_false (by omega),cond_false,Gu (λc hc=>(hP c hc).1) (λc hc=>(hP c hc).2)]
    unfold DK
    match r with
    |[]=>rfl
    |d::r2=>
     have hd:=hb d (by simp)
     have l1:decide ((1:Int)<(((92::d::r2:List Int).length:Nat):Int))=true:=by
      rw[decide_eq_true_eq];simp;omega
     have n1:(0:Int)<=1:=by omega
     have g1:(92::d::r2:List Int)[((1:Int)).toNat]?=some d:=rfl
     have g2:(92::d::r2:List Int)[1]?=some d:=rfl
     rw[g2]
     dsimp only
     refine aQ ((),(decide (32<=d/\d<=126/\kE d=false),())) (λK=>?_) ?_
     ·rw[l1,cond_true,if_pos n1,g1]
      dsimp only
      by_cases h1:32<=d
      ·rw[decide_eq_true h1,cond_true]
       by_cases h2:d<=126
       ·rw[decide_eq_true h2,cond_true,aa (Gt hd)]
        cases kE d <;> simp[h1,h2]
       ·rw[decide_eq_false h2,cond_false]
        simp[h2]
      ·rw[decide_eq_false h1,cond_false]
       simp[h1]
     ·dsimp only
      by_cases h:32<=d/\d<=126/\kE d=false
      ·rw[decide_eq_true h,cond_true,if_pos h,if_pos n1,g1]
       rfl
      ·rw[decide_eq_false h,cond_false,if_neg h]
       rfl
  ·have hc2:decide (c=92)=false:=decide_eq_false hc
   rw[hc2]
   simp only[aG,cond_true,rdS,ne_eq,hc,not_false_eq_true,if_true]
   rfl
end
noncomputable section
theorem yQ(f:Nat->Bool){i:Nat}(h:i<256):C5 N0 (ofB f,((i:Int),()))=some ((f i,()),()):=by
 unfold C5
 dsimp only
 have hw:i / 64<4:=by omega
 have hl:i % 64<64:=dS _ (by omega)
 have w1:IntKind.wrap .i64 (Int.tdiv (i:Int) 64)=((i / 64:Nat):Int):=by rw[Ds];exact bo (by omega)
 have g:=ib (l:=f) hw
 have n1:¬((64:Int)=0):=by omega
 have n2:¬((2:Int)=0):=by omega
 have n3:(0:Int)<=((i / 64:Nat):Int):=by omega
 rw[if_neg n1,w1,if_pos n3,af,g]
 simp only[if_neg n1,if_neg n2,Dt]
 refine ba (λm x q=>∃ j:Nat,x=((),(((a8 f (i / 64) / 2 ^ j:Nat):Int),((j:Int),())))/\m+j=i % 64/\q=some ((f i,()),())) ?_ N0 (i % 64) _ _ (by unfold N0;omega) ⟨0,by simp,by omega,rfl⟩
 rintro m x q ⟨j,rfl,hm,rfl⟩ k hk
 dsimp only
 have hlt:=dn f (i / 64)
 by_cases hj:j<i % 64
 ·have w2:IntKind.wrap .u64 (Int.tdiv ((a8 f (i / 64) / 2 ^ j:Nat):Int) 2)=((a8 f (i / 64) / 2 ^ (j+1):Nat):Int):=by
   have e:Int.tdiv ((a8 f (i / 64) / 2 ^ j:Nat):Int) 2=((a8 f (i / 64) / 2 ^ j / 2:Nat):Int):=by
    rw[show(2:Int)=((2:Nat):Int) by rfl];exact jB _ 2 |>.symm
   rw[e,Nat.div_div_eq_div_mul,<-lO]
   exact wrap_u64 (lE (Nat.div_le_self _ _) hlt)
  have w3:IntKind.wrap .i64 ((j:Int)+1)=((j+1:Nat):Int):=by rw[<-bo (n:=j+1) (by omega)];rfl
  rw[decide_eq_true (show(j:Int)<((i % 64:Nat):Int) by omega),cond_true,w2,w3]
  exact hk (m-1) _ _ (by omega) ⟨j+1,rfl,by omega,rfl⟩
 ·have hj2:j=i % 64:=by omega
  rw[decide_eq_false (show ¬(j:Int)<((i % 64:Nat):Int) by omega),cond_false]
  have hb:=cT f (i / 64) (i % 64)
  rw[rO,<-hj2]at hb
  have e2:64*(i / 64)+j=i:=by omega
  rw[e2,decide_eq_true (show j<64 by omega),bK]at hb
  have e:Int.tmod ((a8 f (i / 64) / 2 ^ j:Nat):Int) 2=((a8 f (i / 64) / 2 ^ j % 2:Nat):Int):=by
   rw[show(2:Int)=((2:Nat):Int) by rfl];exact lL _ 2 |>.symm
  have e3:decide (Int.tmod ((a8 f (i / 64) / 2 ^ j:Nat):Int) 2=1)=f i:=by
   rw[<-hb,e,decide_eq_decide];omega
  rw[e3]
def bits(f:Nat->Bool):List Bool:=(List.range 256).map f
theorem nI(f:Nat->Bool):(bits f).length=256:=by simp[bits]
theorem ly(f:Nat->Bool){i:Nat}(h:i<256):(bits f)[i]?=some (f i):=by
 unfold bits
 rw[cn,gn h]
 rfl
theorem q9{f g:Nat->Bool}(h:∀ i,i<256->f i=g i):bits f=bits g:=by
 unfold bits
 exact List.map_congr_left λi hi=>h i (jA.1 hi)
theorem sD:List.replicate ((256:Int)).toNat false=bits (λ_=>false):=by decide +kernel
theorem wu(f:Nat->Bool){i:Nat}(h:i<256):(bits f).set i true=bits (λx=>f x||decide (x=i)):=by
 apply dO
 intro j
 rw[jx]
 by_cases hj:j<256
 ·have g1:=ly (λx=>f x||decide (x=i)) hj
  have g2:=ly f hj
  rw[g1,g2]
  by_cases e:i=j
  ·subst e
   rw[if_pos rfl,if_pos (by rw[nI];exact h)]
   simp
  ·rw[if_neg e]
   have:¬j=i:=λh=>e h.symm
   simp[this]
 ·have e1:(bits λx=>f x||decide (x=i))[j]?=none:=br (by rw[nI];omega)
  have e2:(bits f)[j]?=none:=br (by rw[nI];omega)
  rw[e1,e2,if_neg (by omega)]
theorem Gv{f:Nat->Bool}{c:Nat}(hz:∀ x,c<=x->f x=false):a8 f (c / 64)+2 ^ (c % 64)=a8 (λx=>f x||decide (x=c)) (c / 64):=by
 have hi:c % 64<64:=dS _ (by omega)
 have hlt:a8 f (c / 64)<2 ^ (c % 64):=by
  apply Nat.lt_pow_two_of_testBit
  intro j hj
  rw[cT,hz _ (by omega),Bool.and_false]
 have e:=Dq (l:=f) (w:=c / 64) hi
 have e2:64*(c / 64)+c % 64=c:=by omega
 rw[e2]at e
 rw[<-e,Nat.or_comm,lM]
 have:=Nat.two_pow_add_eq_or_of_lt hlt 1
 rw[gr]at this
 exact this
theorem Gw(l:List Bool)(hl:l.length<=maxLen):AX N0 (l,())=some ((ofB (λx=>(l[x]?).getD false),()),()):=by
 unfold AX
 dsimp only
 have z:([0,0,0,0]:List Int)=ofB (λx=>decide (x<0)&&(l[x]?).getD false):=by
  rw[show([0,0,0,0]:List Int)=zS by rfl]
  refine(fW.2 ?_).symm
  unfold dy
  rw[cO]
  intro x _
  simp
 refine ba (λm x q=>∃ c:Nat,x=(([0,0,0,0],(ofB (λx=>decide (x<c)&&(l[x]?).getD false),())),((c:Int),()))/\m+c=256/\q=some ((ofB (λx=>(l[x]?).getD false),()),())) ?_ N0 256 _ _ (by unfold N0;omega) ⟨0,by rw[<-z];rfl,rfl,rfl⟩
 rintro m x q ⟨c,rfl,hm,rfl⟩ k hk
 dsimp only
 refine aQ (([0,0,0,0],(ofB (λx=>decide (x<c)&&(l[x]?).getD false),())),(decide (c<256)&&decide (c<l.length),())) (λK=>?_) ?_
 ·by_cases h:c<256
  ·rw[decide_eq_true (show(c:Int)<256 by omega),cond_true,decide_eq_true h,bK]
   have:decide ((c:Int)<((l.length:Nat):Int))=decide (c<l.length):=by rw[decide_eq_decide];omega
   rw[this]
  ·rw[decide_eq_false (show ¬(c:Int)<256 by omega),cond_false,decide_eq_false h,dE]
 dsimp only
 by_cases h:c<256/\c<l.length
 ·obtain⟨hc,hcl⟩:=h
  have n0:(0:Int)<=(c:Int):=by omega
  have KX:l[c]?=some l[c]:=au hcl
  rw[decide_eq_true hc,decide_eq_true hcl,bK,cond_true,if_pos n0,af,KX]
  dsimp only
  have w3:IntKind.wrap .i64 ((c:Int)+1)=((c+1:Nat):Int):=by rw[<-bo (n:=c+1) (by omega)];rfl
  refine aQ (([0,0,0,0],(ofB (λx=>decide (x<c+1)&&(l[x]?).getD false),())),()) (λK=>?_) ?_
  ·have Hv:∀ x:Nat,(decide (x<c+1)&&(l[x]?).getD false)=((decide (x<c)&&(l[x]?).getD false)||(decide (x=c)&&l[c])):=by
    intro x
    by_cases hx:x=c
    ·subst hx
     have h1:¬x<x:=by omega
     have h2:x<x+1:=by omega
     simp[h1,h2,KX]
    ·have:(x<c+1)↔(x<c):=by omega
     simp[this,hx]
   cases hb:l[c]
   ·rw[cond_false]
    have:ofB (λx=>decide (x<c+1)&&(l[x]?).getD false)=ofB (λx=>decide (x<c)&&(l[x]?).getD false):=gM λx hx=>by rw[Hv x,hb];simp
    rw[this]
   ·rw[cond_true]
    have hw:c / 64<4:=by omega
    have hl6:c % 64<64:=dS _ (by omega)
    have w1:IntKind.wrap .i64 (Int.tdiv (c:Int) 64)=((c / 64:Nat):Int):=by rw[Ds];exact bo (by omega)
    have w2:IntKind.wrap .u64 (Int.tmod (c:Int) 64)=((c % 64:Nat):Int):=by rw[Dt];exact wrap_u64 (by omega)
    have n1:¬((64:Int)=0):=by omega
    have n2:¬(((c % 64:Nat):Int)<0):=by omega
    have n3:(0:Int)<=((c / 64:Nat):Int):=by omega
    have g:(ofB (λx=>decide (x<c)&&(l[x]?).getD false))[((c / 64:Nat):Int).toNat]?=some ((a8 (λx=>decide (x<c)&&(l[x]?).getD false) (c / 64):Nat):Int):=by rw[af];exact ib hw
    rw[if_neg n1,if_neg n1,w1,if_pos n3,g]
    simp only[if_neg n1,w2,if_neg n2,if_pos n3,g,tV hl6]
    have hab:=Gv (f:=λx=>decide (x<c)&&(l[x]?).getD false) (c:=c) (λx hx=>by
     have:¬x<c:=by omega
     simp[this])
    have hlt:=dn (λx=>(decide (x<c)&&(l[x]?).getD false)||decide (x=c)) (c / 64)
    have w4:IntKind.wrap .u64 (((a8 (λx=>decide (x<c)&&(l[x]?).getD false) (c / 64):Nat):Int)+((2 ^ (c % 64):Nat):Int))=((a8 (λx=>(decide (x<c)&&(l[x]?).getD false)||decide (x=c)) (c / 64):Nat):Int):=by
     rw[<-hab,<-Int.natCast_add]
     exact wrap_u64 (by rw[hab];exact hlt)
    rw[w4,af]
    have cS:(ofB (λx=>decide (x<c)&&(l[x]?).getD false)).set (c / 64) ((a8 (λx=>(decide (x<c)&&(l[x]?).getD false)||decide (x=c)) (c / 64):Nat):Int)=ofB (λx=>(decide (x<c)&&(l[x]?).getD false)||decide (x=c)):=
     tU hw rfl (λv j hv hne hj=>by
      have:¬(64*v+j=c):=by omega
      simp[this])
    rw[cS]
    have:ofB (λx=>decide (x<c+1)&&(l[x]?).getD false)=ofB (λx=>(decide (x<c)&&(l[x]?).getD false)||decide (x=c)):=gM λx hx=>by rw[Hv x,hb];simp
    rw[this]
  ·dsimp only
   rw[w3]
   exact hk (m-1) _ _ (by omega) ⟨c+1,rfl,by omega,rfl⟩
 ·have hf:(decide (c<256)&&decide (c<l.length))=false:=by
   rw[ij,decide_eq_false_iff_not,decide_eq_false_iff_not]
   omega
  rw[hf,cond_false]
  have:ofB (λx=>decide (x<c)&&(l[x]?).getD false)=ofB (λx=>(l[x]?).getD false):=gM λx hx=>by
   by_cases hxc:x<c
   ·simp[hxc]
   ·have:l[x]?=none:=br (by omega)
    simp[this]
  rw[this]
theorem o5(f:Nat->Bool):AX N0 (bits f,())=some ((ofB f,()),()):=by
 rw[Gw _ (by rw[nI];simp[maxLen])]
 have:ofB (λx=>((bits f)[x]?).getD false)=ofB f:=gM λx hx=>by rw[ly _ hx];rfl
 rw[this]
theorem wv(f g:Nat->Bool):F3 N0 (3,(ofB f,(ofB g,())))=some ((ofB (λx=>!f x),()),()):=by
 unfold F3
 dsimp only
 refine ba (λm x q=>∃ c:Nat,x=(([0,0,0,0],()),((List.range c).map (λx=>!f x),((c:Int),())))/\m+c=256/\q=some ((ofB (λx=>!f x),()),())) ?_ N0 256 _ _ (by unfold N0;omega) ⟨0,rfl,rfl,rfl⟩
 rintro m x q ⟨c,rfl,hm,rfl⟩ k hk
 dsimp only
 rcases av c 256 with hc|hc
 ·have w3:IntKind.wrap .i64 ((c:Int)+1)=((c+1:Nat):Int):=by rw[<-bo (n:=c+1) (by omega)];rfl
  rw[decide_eq_true (show(c:Int)<256 by omega),cond_true,aa (yQ f hc)]
  dsimp only
  rw[aa (yQ g hc)]
  dsimp only
  have f1:(((List.range c).map (λx=>!f x)).length+([!f c]:List Bool).length)*1<=140737488355328:=by simp;omega
  have f2:((List.range c).map (λx=>!f x)).length+([!f c]:List Bool).length<=9223372036854775807:=by simp;omega
  simp only[bA,show decide ((3:Int)=0)=false from rfl,show decide ((3:Int)=1)=false from rfl,show decide ((3:Int)=2)=false from rfl,cond_false]
  rw[if_pos f1,if_pos f2,w3]
  refine hk (m-1) _ _ (by omega) ⟨c+1,?_,by omega,rfl⟩
  rw[List.range_succ,dQ]
  rfl
 ·have hc2:c=256:=by omega
  subst hc2
  rw[decide_eq_false (by omega),cond_false]
  exact aa (o5 _) _
end
noncomputable section
theorem nJ{A R:Type}{P:Option R->Prop}{J:A->Option R}{body:(A->Option R)->Option R}(h:∀ K,(∀ x,K x=J x)->P (body K)):P (aq J body):=h J λ_=>rfl
def OkQ(o:Option (Rx×Nat))(z:Option ((List Pc×(Int×Unit))×Unit)):Prop:=
 match o with
 |some (t,j)=>z=some ((t.post,((j:Int),())),())
 |none=>∃ k:Int,z=some (([],(k,())),())
theorem rc(s:List Int){i:Nat}(hi:i<=s.length):((0:Int)<=(i:Int)/\(i:Int)<=((s.length:Nat):Int)/\((s.length:Nat):Int)<=((s.length:Nat):Int))/\bZ s (i:Int) ((s.length:Nat):Int)=s.drop i:=by
 refine⟨⟨by omega,by omega,by omega⟩,?_⟩
 unfold bZ
 simp only[af]
 exact dC (by simp)
theorem rf{s:List Int}(hs:s.length<=maxLen)(i:Nat):(s.drop i).length<=maxLen:=by rw[bm];omega
theorem Gx{s:List Int}(hb:Bytes s)(hs0:s.length<=1600){i:Nat}(hi:i<=s.length):OkQ (brS s i) (II N0 (s,((i:Int),()))):=by
 have hs:s.length<=maxLen:=by unfold maxLen;omega
 rw[tX]
 unfold II
 dsimp only
 rw[if_pos (show(0:Int)<=256/\(256:Int)<=256 by omega),if_pos (show((256:Int)).toNat*1<=140737488355328 by decide),sD]
 refine dw (P:=OkQ _) ((bits (λ_=>false),()),(eC s i 94,())) (λK=>?_) ?_
 ·unfold eC
  rcases av i s.length with h|h
  ·have n0:(0:Int)<=(i:Int):=by omega
   rw[decide_eq_true (show(i:Int)<((s.length:Nat):Int) by omega),cond_true,if_pos n0,af,fX h,decide_eq_true h,bK]
  ·rw[decide_eq_false (show ¬(i:Int)<((s.length:Nat):Int) by omega),cond_false,decide_eq_false (show ¬i<s.length by omega),dE]
 dsimp only
 generalize hnt:eC s i 94=nt
 have hlt:nt=true->i<s.length:=λh=>by
  rw[<-hnt]at h
  unfold eC at h
  simp at h
  exact h.1
 have hi1:(if nt=true then i+1 else i)<=s.length:=by
  split
  ·rename_i h;exact hlt h
  ·exact hi
 refine dw (P:=OkQ _) ((bits (λ_=>false),()),(((if nt=true then i+1 else i:Nat):Int),())) (λK=>?_) ?_
 ·cases nt
  ·rfl
  ·rw[cond_true,if_pos rfl,bg (hlt rfl) hs]
 dsimp only
 generalize (if nt=true then i+1 else i)=i1 at hi1 |-
 generalize bR:brL s s.length.succ i1 (λ_=>false)=res
 refine dz (λm x=>∃ (i:Nat) (f:Nat->Bool) (bM:Nat),x=((bits f,()),((i:Int),()))/\i<=s.length/\s.length-i<bM/\m=s.length-i/\brL s bM i f=res) (OkQ (lx s nt res)) ?_ N0 (s.length-i1) _ (by have:=pA hs;omega) ⟨i1,_,s.length.succ,rfl,hi1,by omega,rfl,bR⟩
 rintro m x ⟨i,f,bM,rfl,hi,hf,hm,hr⟩ k hk
 obtain⟨bM,rfl⟩:∃ q,bM=q+1:=⟨bM-1,by omega⟩
 simp only[brL]at hr
 dsimp only
 have n0:(0:Int)<=(i:Int):=by omega
 refine dw (P:=OkQ _) ((bits f,()),(decide (¬(s.length<=i\/ch s i=93)),())) (λK=>?_) ?_
 ·rcases av i s.length with h|h
  ·have e:decide (¬(s.length<=i\/ch s i=93))=!decide (ch s i=93):=by
    have:¬s.length<=i:=by omega
    simp[this]
   rw[decide_eq_true (show(i:Int)<((s.length:Nat):Int) by omega),cond_true,if_pos n0,af,fX h,e]
  ·have e:decide (¬(s.length<=i\/ch s i=93))=false:=by simp[h]
   rw[decide_eq_false (show ¬(i:Int)<((s.length:Nat):Int) by omega),cond_false,e]
 dsimp only
 by_cases kt:s.length<=i\/ch s i=93
 ·-- the end
  rw[if_pos kt]at hr
  rw[decide_eq_false (λh=>h kt),cond_false,aa (o5 f)]
  dsimp only
  subst hr
  unfold lx
  dsimp only
  generalize hg:(if nt=true then λx=>!f x else f)=g
  refine dw (P:=OkQ _) ((ofB g,()),()) (λK=>?_) ?_
  ·cases nt
   ·rw[cond_false]
    have:f=g:=hg
    rw[this]
   ·rw[cond_true,aa (wv f f)]
    have:(λx=>!f x)=g:=hg
    rw[this]
  dsimp only
  refine dw (P:=OkQ _) ((ofB g,()),(decide (s.length<=i\/dy g=true),())) (λK=>?_) ?_
  ·rcases av i s.length with h|h
   ·have e:decide (s.length<=i\/dy g=true)=decide (ofB g=[0,0,0,0]):=by
     have:¬s.length<=i:=by omega
     rw[decide_eq_decide,show([0,0,0,0]:List Int)=zS by rfl,fW]
     simp[this]
    rw[decide_eq_false (show ¬((s.length:Nat):Int)<=(i:Int) by omega),cond_false,e]
   ·rw[decide_eq_true (show((s.length:Nat):Int)<=(i:Int) by omega),cond_true,decide_eq_true (.inl h)]
  dsimp only
  by_cases hem:s.length<=i\/dy g=true
  ·rw[if_pos hem,decide_eq_true hem,cond_true]
   exact⟨_,rfl⟩
  ·rw[if_neg hem,decide_eq_false hem,cond_false,bg (show i<s.length by omega) hs]
   rfl
 ·rw[if_neg kt]at hr
  have hlt:i<s.length:=by omega
  obtain⟨hc,qZ⟩:=rc s hi
  rw[decide_eq_true kt,cond_true,if_pos hc,qZ,aa (ua (hb.drop i) (rf hs i))]
  dsimp only
  cases hrd:rdS (s.drop i)with
  |none=>
   have:res=none:=by
    rw[hrd]at hr
    split at hr
    ·exact hr.symm
    ·exact hr.symm
   subst this
   exact⟨_,rfl⟩
  |some p=>
   obtain⟨a,n⟩:=p
   rw[hrd]at hr
   obtain⟨ha,hn1,hn2⟩:=jm (hb.drop i) hrd
   rw[bm]at hn2
   dsimp only[rdR]
   dsimp only at hr
   refine dw (P:=OkQ _) ((bits f,()),(decide (ch s i∈([94,45,47,34]:List Int)),())) (λK=>?_) ?_
   ·rw[az,cond_false,if_pos n0,af,fX hlt]
    dsimp only
    rw[aa (nH _ (by simp[maxLen]) _)]
   dsimp only
   by_cases hin:ch s i∈([94,45,47,34]:List Int)
   ·rw[if_pos hin]at hr
    rw[decide_eq_true hin,cond_true]
    subst hr
    exact⟨_,rfl⟩
   rw[if_neg hin]at hr
   rw[decide_eq_false hin,cond_false]
   have w1:IntKind.wrap .i64 ((i:Int)+(n:Int))=((i+n:Nat):Int):=by
    rw[<-bo (n:=i+n) (by omega)];rfl
   have w2:IntKind.wrap .i64 (((i+n:Nat):Int)+1)=((i+n+1:Nat):Int):=by
    rw[<-bo (n:=i+n+1) (by omega)];rfl
   simp only[w1]
   refine dw (P:=OkQ _) ((bits f,()),(eC s (i+n) 45,())) (λK=>?_) ?_
   ·unfold eC
    rcases av (i+n) s.length with h|h
    ·have n0:(0:Int)<=((i+n:Nat):Int):=by omega
     rw[decide_eq_true (show((i+n:Nat):Int)<((s.length:Nat):Int) by omega),cond_true,if_pos n0,af,fX h,decide_eq_true h,bK]
    ·rw[decide_eq_false (show ¬((i+n:Nat):Int)<((s.length:Nat):Int) by omega),cond_false,decide_eq_false (show ¬i+n<s.length by omega),dE]
   dsimp only
   simp only[w2]
   refine nJ (P:=OkQ _) λK hK=>?_
   -- EE goes on with a range
   have go:∀ (j:Nat) (b:Int),j<=s.length->i<j->(0<=b/\b<=255)->brL s bM j (λx=>f x||qX a b x)=res->
    OkQ (lx s nt res) (K ((bits f,()),((j:Int),(b,())))):=by
    intro j b hj hij hbb bR
    rw[hK]
    dsimp only
    have wa:IntKind.wrap .i64 a=a:=bI (by omega) (by omega)
    have wb:IntKind.wrap .i64 b=b:=bI (by omega) (by omega)
    rw[wa,wb]
    have e0:bits f=bits (λx=>f x||(decide (a<=(x:Int))&&decide ((x:Int)<((a.toNat:Nat):Int)))):=q9 λx hx=>by
     rw[cF ha.1]
     by_cases h:a<=(x:Int)
     ·have:¬(x:Int)<a:=by omega
      simp[this]
     ·simp[h]
    refine dz (λm x=>∃ c:Nat,x=((bits (λx=>f x||(decide (a<=(x:Int))&&decide ((x:Int)<(c:Int)))),()),((c:Int),()))/\m+c=256/\a<=(c:Int)/\(a<=b->(c:Int)<=b+1)/\(b<a->(c:Int)=a)) (OkQ (lx s nt res)) ?_ N0 (256-a.toNat) _ (by unfold N0;omega) ⟨a.toNat,by rw[<-e0,cF ha.1],by omega,by omega,by omega,by omega⟩
    rintro m x ⟨c,rfl,hm,h1,h2,h3⟩ k2 hk2
    dsimp only
    by_cases hcb:(c:Int)<=b
    ·have hc:c<256:=by omega
     have n1:(0:Int)<=(c:Int):=by omega
     have w3:IntKind.wrap .i64 ((c:Int)+1)=((c+1:Nat):Int):=by rw[<-bo (n:=c+1) (by omega)];rfl
     rw[decide_eq_true hcb,cond_true,if_pos n1,af,ly _ hc]
     dsimp only
     rw[if_pos n1]
     rw[wu _ hc,w3]
     refine hk2 (m-1) _ (by omega) ⟨c+1,?_,by omega,by omega,by omega,by omega⟩
     have:bits (λx=>(f x||(decide (a<=(x:Int))&&decide ((x:Int)<(c:Int))))||decide (x=c))=bits (λx=>f x||(decide (a<=(x:Int))&&decide ((x:Int)<((c+1:Nat):Int)))):=q9 λx hx=>by
      have e3:decide ((x:Int)<((c+1:Nat):Int))=(decide ((x:Int)<(c:Int))||decide (x=c)):=by rw[<-Bool.decide_or,decide_eq_decide];omega
      rw[e3]
      by_cases hax:a<=(x:Int)
      ·simp[hax,Bool.or_assoc]
      ·have:¬x=c:=by omega
       simp[hax,this]
     rw[this]
    ·rw[decide_eq_false hcb,cond_false]
     refine hk (s.length-j) _ (by omega) ⟨j,_,bM,?_,hj,by omega,rfl,bR⟩
     have:bits (λx=>f x||(decide (a<=(x:Int))&&decide ((x:Int)<(c:Int))))=bits (λx=>f x||qX a b x):=q9 λx hx=>by
      unfold qX
      rcases Int.lt_or_le b a with hl|hl
      ·have e:=h3 hl
       by_cases hax:a<=(x:Int)
       ·have q1:¬((x:Int)<=b):=by omega
        have q2:¬((x:Int)<(c:Int)):=by omega
        simp[q1,q2]
       ·simp[hax]
      ·have e:=h2 hl
       have:((x:Int)<(c:Int))↔((x:Int)<=b):=by omega
       simp[this]
     rw[this]
   clear hK
   by_cases hd:i+n<s.length/\ch s (i+n)=45
   ·rw[if_pos hd]at hr
    have he:eC s (i+n) 45=true:=by unfold eC;simp[hd.1,hd.2]
    rw[he,cond_true]
    refine dw (P:=OkQ _) ((bits f,()),(decide (s.length<=i+n+1\/ch s (i+n+1)∈([93,94,45,47,34]:List Int)),())) (λK=>?_) ?_
    ·rcases av (i+n+1) s.length with h|h
     ·have n0:(0:Int)<=((i+n+1:Nat):Int):=by omega
      rw[decide_eq_false (show ¬((s.length:Nat):Int)<=((i+n+1:Nat):Int) by omega),cond_false,if_pos n0,af,fX h]
      dsimp only
      rw[aa (nH _ (by simp[maxLen]) _)]
      have e:decide (s.length<=i+n+1\/ch s (i+n+1)∈([93,94,45,47,34]:List Int))=decide (ch s (i+n+1)∈([93,94,45,47,34]:List Int)):=by
       have:¬s.length<=i+n+1:=by omega
       rw[decide_eq_decide];exact⟨λh=>h.resolve_left this,.inr⟩
      rw[e]
     ·rw[decide_eq_true (show((s.length:Nat):Int)<=((i+n+1:Nat):Int) by omega),cond_true,decide_eq_true (.inl h)]
    dsimp only
    by_cases h4:s.length<=i+n+1\/ch s (i+n+1)∈([93,94,45,47,34]:List Int)
    ·rw[if_pos h4]at hr
     rw[decide_eq_true h4,cond_true]
     subst hr
     exact⟨_,rfl⟩
    rw[if_neg h4]at hr
    obtain⟨hc2,wq⟩:=rc s (show i+n+1<=s.length by omega)
    rw[decide_eq_false h4,cond_false,if_pos hc2,wq,aa (ua (hb.drop _) (rf hs _))]
    dsimp only
    cases wk:rdS (s.drop (i+n+1))with
    |none=>
     rw[wk]at hr
     dsimp only at hr
     subst hr
     exact⟨_,rfl⟩
    |some p2=>
     obtain⟨b,n2⟩:=p2
     rw[wk]at hr
     dsimp only at hr
     dsimp only[rdR]
     obtain⟨hbb,hn3,hn4⟩:=jm (hb.drop _) wk
     rw[bm]at hn4
     have w3:IntKind.wrap .i64 (((i+n+1:Nat):Int)+(n2:Int))=((i+n+1+n2:Nat):Int):=by
      rw[<-bo (n:=i+n+1+n2) (by omega)];rfl
     simp only[w3]
     refine dw (P:=OkQ _) ((bits f,()),(decide (b<a),())) (λK=>?_) ?_
     ·rw[az,cond_false]
      rfl
     dsimp only
     by_cases hba:b<a
     ·rw[if_pos hba]at hr
      rw[decide_eq_true hba,cond_true]
      subst hr
      exact⟨_,rfl⟩
     ·rw[if_neg hba]at hr
      rw[decide_eq_false hba,cond_false]
      exact go (i+n+1+n2) b (by omega) (by omega) hbb hr
   ·rw[if_neg hd]at hr
    have he:eC s (i+n) 45=false:=by
     unfold eC
     rw[ij,decide_eq_false_iff_not,decide_eq_false_iff_not]
     by_cases h:i+n<s.length
     ·exact .inr λh2=>hd ⟨h,h2⟩
     ·exact .inl h
    rw[he,cond_false]
    exact go (i+n) a (by omega) (by omega) ha hr
end
noncomputable section
abbrev RfF:=(List Int×(Int×(Int×Unit)))->Option ((List Pc×(Int×Unit))×Unit)
theorem gN(t:Rx):List.isEmpty t.post=false:=by
 have h1:=t.aN
 have h2:=t.bu
 cases hp:t.post with
 |nil=>rw[hp]at h1;simp at h1;omega
 |cons a b=>rfl
theorem Gy{i n:Nat}(h:i+n<9223372036854775808):IntKind.wrap .i64 ((i:Int)+(n:Int))=((i+n:Nat):Int):=by rw[<-bo h];rfl
theorem cE{i:Nat}(h:i+1<9223372036854775808):IntKind.wrap .i64 ((i:Int)+1)=((i+1:Nat):Int):=by rw[<-bo h];rfl
theorem Gz{s:List Int}(hb:Bytes s)(hs:s.length<=1600){q2 q3 q4 q5:RfF}{inner:Nat->Nat->Option (Rx×Nat)}{i d:Nat}(hd:d<=i)
 (hin:i<s.length->OkQ (inner (i+1) (d+1)) (q2 (s,(((i+1:Nat):Int),(((d+1:Nat):Int),()))))) (bR:iW s (i+1) (inner (i+1) (d+1))):
 OkQ (kK inner s i d) (Da N0 q2 q3 q4 q5 (s,((i:Int),((d:Int),())))):=by
 have hsm:s.length<=maxLen:=by unfold maxLen;omega
 unfold Da kK
 dsimp only
 have n0:(0:Int)<=(i:Int):=by omega
 refine dw (P:=OkQ _) ((),(decide (s.length<=i\/ch s i∈([124,41,42,43,63,93,47,34]:List Int)),())) (λK=>?_) ?_
 ·rcases av i s.length with h|h
  ·rw[decide_eq_false (show ¬((s.length:Nat):Int)<=(i:Int) by omega),cond_false,if_pos n0,af,fX h]
   dsimp only
   rw[aa (nH _ (by simp[maxLen]) _)]
   have e:decide (s.length<=i\/ch s i∈([124,41,42,43,63,93,47,34]:List Int))=decide (ch s i∈([124,41,42,43,63,93,47,34]:List Int)):=by
    have:¬s.length<=i:=by omega
    rw[decide_eq_decide];exact⟨λh=>h.resolve_left this,.inr⟩
   rw[e]
  ·rw[decide_eq_true (show((s.length:Nat):Int)<=(i:Int) by omega),cond_true,decide_eq_true (.inl h)]
 dsimp only
 by_cases kt:s.length<=i\/ch s i∈([124,41,42,43,63,93,47,34]:List Int)
 ·rw[if_pos kt,decide_eq_true kt,cond_true]
  exact⟨_,rfl⟩
 rw[if_neg kt,decide_eq_false kt,cond_false]
 have hlt:i<s.length:=by omega
 have w1:IntKind.wrap .i64 ((i:Int)+1)=((i+1:Nat):Int):=cE (by omega)
 simp only[if_pos n0,af,fX hlt,w1]
 have hz:([0,0,0,0]:List Int)=ofB (λ_=>false):=by
  rw[show([0,0,0,0]:List Int)=zS by rfl]
  exact(fW.2 (by unfold dy;rw[cO];intro x _;rfl)).symm
 by_cases h46:ch s i=46
 ·rw[decide_eq_true h46,cond_true,if_pos h46,hz,aa (wv _ _)]
  rfl
 rw[decide_eq_false h46,cond_false,if_neg h46]
 by_cases h126:ch s i=126
 ·rw[decide_eq_true h126,cond_true,if_pos h126]
  rfl
 rw[decide_eq_false h126,cond_false,if_neg h126]
 by_cases h91:ch s i=91
 ·rw[decide_eq_true h91,cond_true,if_pos h91]
  have hq:=Gx hb hs (show i+1<=s.length by omega)
  unfold OkQ at hq
  cases ho:brS s (i+1)with
  |none=>
   rw[ho]at hq
   obtain⟨k,hq⟩:=hq
   rw[aa hq]
   exact⟨_,rfl⟩
  |some p=>
   obtain⟨t,j⟩:=p
   rw[ho]at hq
   dsimp only at hq
   rw[aa hq]
   rfl
 rw[decide_eq_false h91,cond_false,if_neg h91]
 by_cases h40:ch s i=40
 ·rw[decide_eq_true h40,cond_true,if_pos h40]
  by_cases h99:99<=d
  ·rw[if_pos h99,decide_eq_true (show(99:Int)<=(d:Int) by omega),cond_true]
   exact⟨_,rfl⟩
  rw[if_neg h99,decide_eq_false (show ¬(99:Int)<=(d:Int) by omega),cond_false]
  have wd:IntKind.wrap .i64 ((d:Int)+1)=((d+1:Nat):Int):=cE (by omega)
  rw[wd]
  have hq:=hin hlt
  unfold OkQ at hq
  cases ho:inner (i+1) (d+1)with
  |none=>
   rw[ho]at hq
   obtain⟨k,hq⟩:=hq
   rw[aa hq]
   exact⟨_,rfl⟩
  |some p=>
   obtain⟨t,j⟩:=p
   rw[ho]at hq
   dsimp only at hq
   obtain⟨r1,r2,r3,r4⟩:=bR t j ho
   rw[aa hq]
   dsimp only
   refine dw (P:=OkQ _) ((),(decide (¬(j<s.length/\ch s j=41)),())) (λK=>?_) ?_
   ·rw[gN t,cond_false]
    rcases av j s.length with h|h
    ·have n1:(0:Int)<=(j:Int):=by omega
     have e:decide (¬(j<s.length/\ch s j=41))=!decide (ch s j=41):=by simp[h]
     rw[decide_eq_false (show ¬((s.length:Nat):Int)<=(j:Int) by omega),cond_false,if_pos n1,af,fX h,e]
    ·have e:decide (¬(j<s.length/\ch s j=41))=true:=by simp;omega
     rw[decide_eq_true (show((s.length:Nat):Int)<=(j:Int) by omega),cond_true,e]
   dsimp only
   by_cases hj:j<s.length/\ch s j=41
   ·rw[if_pos hj,decide_eq_false (λh=>h hj),cond_false,cE (by omega)]
    rfl
   ·rw[if_neg hj,decide_eq_true hj,cond_true]
    exact⟨_,rfl⟩
 rw[decide_eq_false h40,cond_false,if_neg h40]
 obtain⟨hc,qZ⟩:=rc s (show i<=s.length by omega)
 rw[if_pos hc,qZ,aa (ua (hb.drop i) (rf hsm i))]
 dsimp only
 cases hrd:rdS (s.drop i)with
 |none=>exact⟨_,rfl⟩
 |some p=>
  obtain⟨c,n⟩:=p
  obtain⟨hcb,hn1,hn2⟩:=jm (hb.drop i) hrd
  rw[bm]at hn2
  dsimp only[rdR]
  obtain⟨c,rfl⟩:∃ q:Nat,c=(q:Int):=⟨c.toNat,by omega⟩
  have n1:(0:Int)<=(c:Int):=by omega
  have Hw:c<256:=by omega
  rw[az,cond_false,if_pos (show(0:Int)<=256/\(256:Int)<=256 by omega),if_pos (show((256:Int)).toNat*1<=140737488355328 by decide)]
  simp only[if_pos n1,sD,af,ly _ Hw,wu _ Hw]
  rw[aa (o5 _)]
  simp only[Gy (show i+n<9223372036854775808 by omega)]
  have e:ofB (λx=>false||decide (x=c))=ofB (oW (c:Int)):=gM λx hx=>by
   unfold oW
   rw[cR,decide_eq_decide];omega
  rw[e]
  rfl
theorem xR{s:List Int}(hb:Bytes s)(hs:s.length<=1600){q2 q3 q4 q5:RfF}{inner:Nat->Nat->Option (Rx×Nat)}{i d:Nat}
 (dA:OkQ (kK inner s i d) (q5 (s,((i:Int),((d:Int),()))))) (bR:iW s i (kK inner s i d)):
 OkQ (jl inner s i d) (C9 N0 q2 q3 q4 q5 (s,((i:Int),((d:Int),())))):=by
 have hsm:s.length<=maxLen:=by unfold maxLen;omega
 unfold C9
 dsimp only
 unfold jl
 unfold OkQ at dA
 cases ho:kK inner s i d with
 |none=>
  rw[ho]at dA
  obtain⟨k0,hq⟩:=dA
  rw[aa hq]
  refine dz (λm x=>x=((),(k0,([],())))) (OkQ none) ?_ N0 0 _ (by unfold N0;omega) rfl
  rintro m x rfl k hk
  exact⟨_,rfl⟩
 |some p=>
  obtain⟨t0,j0⟩:=p
  rw[ho]at dA
  dsimp only at dA
  have hr0:=bR t0 j0 ho
  rw[aa dA]
  dsimp only
  generalize hrs:oX s s.length.succ j0 t0=res
  refine dz (λm x=>∃ (j:Nat) (t:Rx) (bM:Nat),x=((),((j:Int),(t.post,())))/\Res s i t j/\s.length-j<bM/\m=s.length-j/\oX s bM j t=res) (OkQ res) ?_ N0 (s.length-j0) _ (by unfold N0;omega) ⟨j0,t0,_,rfl,hr0,by omega,rfl,hrs⟩
  rintro m x ⟨j,t,bM,rfl,hr,hf,hm,hl⟩ k hk
  obtain⟨bM,rfl⟩:∃ q,bM=q+1:=⟨bM-1,by omega⟩
  simp only[oX]at hl
  dsimp only
  have n1:(0:Int)<=(j:Int):=by omega
  refine dw (P:=OkQ _) ((),(decide (j<s.length/\ch s j∈([42,43,63]:List Int)),())) (λK=>?_) ?_
  ·rw[gN t,aG,cond_true]
   rcases av j s.length with h|h
   ·rw[decide_eq_true (show(j:Int)<((s.length:Nat):Int) by omega),cond_true,if_pos n1,af,fX h]
    dsimp only
    rw[aa (nH _ (by simp[maxLen]) _)]
    have e:decide (j<s.length/\ch s j∈([42,43,63]:List Int))=decide (ch s j∈([42,43,63]:List Int)):=by
     rw[decide_eq_decide];exact⟨λh=>h.2,λh2=>⟨h,h2⟩⟩
    rw[e]
   ·have e:decide (j<s.length/\ch s j∈([42,43,63]:List Int))=false:=decide_eq_false (λh2=>by omega)
    rw[decide_eq_false (show ¬(j:Int)<((s.length:Nat):Int) by omega),cond_false,e]
  dsimp only
  by_cases hc:j<s.length/\ch s j∈([42,43,63]:List Int)
  ·rw[if_pos hc]at hl
   obtain⟨g1,g2,g3,g4⟩:=hr
   have tl:=t.aN
   rw[decide_eq_true hc,cond_true,if_pos n1,af,fX hc.1]
   dsimp only
   refine dw (P:=OkQ _) ((),((if ch s j=43 then 5 else 4),())) (λK=>?_) ?_
   ·by_cases h:ch s j=43
    ·rw[decide_eq_true h,cond_true,if_pos h]
    ·rw[decide_eq_false h,cond_false,if_neg h]
   dsimp only
   rw[if_pos n1]
   refine dw (P:=OkQ _) ((),(gC (ch s j),())) (λK=>?_) ?_
   ·unfold gC
    by_cases h:ch s j=63
    ·rw[decide_eq_true h,cond_true,h];rfl
    ·rw[decide_eq_false h,cond_false]
     have h3:ch s j=42\/ch s j=43:=by
      have:=hc.2
      simp[h]at this
      exact this
     rcases h3 with h3|h3 <;> rw[h3] <;> rfl
   dsimp only
   have c1:(([]:List Pc).length+t.post.length)*40<=140737488355328:=by simp;omega
   have c2:([]:List Pc).length+t.post.length<=9223372036854775807:=by simp;omega
   have c3:((([]:List Pc)++t.post).length+([(gC (ch s j),[0,0,0,0])]:List Pc).length)*40<=140737488355328:=by simp;omega
   have c4:(([]:List Pc)++t.post).length+([(gC (ch s j),[0,0,0,0])]:List Pc).length<=9223372036854775807:=by simp;omega
   have e:([]:List Pc)++t.post++[(gC (ch s j),[0,0,0,0])]=(Rx.rep (gC (ch s j)) t).post:=rfl
   rw[if_pos c1,if_pos c2,if_pos c3,if_pos c4,e,gN,cond_false,cE (by omega)]
   exact hk (s.length-(j+1)) _ (by omega) ⟨j+1,_,bM,rfl,⟨by omega,by omega,by simp only[Rx.len];omega,oZ _,g4⟩,by omega,rfl,hl⟩
  ·rw[if_neg hc]at hl
   rw[decide_eq_false hc,cond_false]
   subst hl
   rfl
end
noncomputable section
theorem GA{s:List Int}(hb:Bytes s)(hs:s.length<=1600){q2 q3 q4 q5:RfF}{inner:Nat->Nat->Option (Rx×Nat)}{i d:Nat}(hi:i<=s.length)
 (bh:∀ j,i<=j->j<=s.length->OkQ (jl inner s j d) (q4 (s,((j:Int),((d:Int),()))))) (bR:∀ j,i<=j->iW s j (jl inner s j d)):
 OkQ (jV inner s i d) (C8 N0 q2 q3 q4 q5 (s,((i:Int),((d:Int),())))):=by
 have hsm:s.length<=maxLen:=by unfold maxLen;omega
 unfold C8
 dsimp only
 unfold jV
 have dA:=bh i (ar _) hi
 unfold OkQ at dA
 cases ho:jl inner s i d with
 |none=>
  rw[ho]at dA
  obtain⟨k0,hq⟩:=dA
  rw[aa hq]
  refine dz (λm x=>x=((),(k0,([],())))) (OkQ none) ?_ N0 0 _ (by unfold N0;omega) rfl
  rintro m x rfl k hk
  exact⟨_,rfl⟩
 |some p=>
  obtain⟨t0,j0⟩:=p
  rw[ho]at dA
  dsimp only at dA
  have hr0:=bR i (ar _) t0 j0 ho
  rw[aa dA]
  dsimp only
  generalize hrs:pM inner s d s.length.succ j0 t0=res
  refine dz (λm x=>∃ (j:Nat) (t:Rx) (bM:Nat),x=((),((j:Int),(t.post,())))/\Res s i t j/\s.length-j<bM/\m=s.length-j/\pM inner s d bM j t=res) (OkQ res) ?_ N0 (s.length-j0) _ (by unfold N0;omega) ⟨j0,t0,_,rfl,hr0,by omega,rfl,hrs⟩
  rintro m x ⟨j,t,bM,rfl,hr,hf,hm,hl⟩ k hk
  obtain⟨bM,rfl⟩:∃ q,bM=q+1:=⟨bM-1,by omega⟩
  simp only[pM]at hl
  dsimp only
  have n1:(0:Int)<=(j:Int):=by omega
  refine dw (P:=OkQ _) ((),(decide (j<s.length/\ch s j∉([124,41]:List Int)),())) (λK=>?_) ?_
  ·rw[gN t,aG,cond_true]
   rcases av j s.length with h|h
   ·rw[decide_eq_true (show(j:Int)<((s.length:Nat):Int) by omega),cond_true,if_pos n1,af,fX h]
    dsimp only
    rw[aa (nH _ (by simp[maxLen]) _)]
    have e:decide (j<s.length/\ch s j∉([124,41]:List Int))=!decide (ch s j∈([124,41]:List Int)):=by
     rw[<-decide_not,decide_eq_decide];exact⟨λh=>h.2,λh2=>⟨h,h2⟩⟩
    rw[e]
   ·have e:decide (j<s.length/\ch s j∉([124,41]:List Int))=false:=decide_eq_false (λh2=>by omega)
    rw[decide_eq_false (show ¬(j:Int)<((s.length:Nat):Int) by omega),cond_false,e]
  dsimp only
  by_cases hc:j<s.length/\ch s j∉([124,41]:List Int)
  ·rw[if_pos hc]at hl
   obtain⟨g1,g2,g3,g4⟩:=hr
   have tl:=t.aN
   rw[decide_eq_true hc,cond_true]
   have hq:=bh j (by omega) (by omega)
   unfold OkQ at hq
   cases h2:jl inner s j d with
   |none=>
    rw[h2]at hq hl
    obtain⟨k0,hq⟩:=hq
    rw[aa hq]
    subst hl
    exact⟨_,rfl⟩
   |some p=>
    obtain⟨t2,j2⟩:=p
    rw[h2]at hq hl
    dsimp only at hq hl
    obtain⟨f1,f2,f3,f4⟩:=bR j (by omega) t2 j2 h2
    have tl2:=t2.aN
    rw[aa hq]
    dsimp only
    have c1:(([]:List Pc).length+t.post.length)*40<=140737488355328:=by simp;omega
    have c2:([]:List Pc).length+t.post.length<=9223372036854775807:=by simp;omega
    have c3:((([]:List Pc)++t.post).length+t2.post.length)*40<=140737488355328:=by simp;omega
    have c4:(([]:List Pc)++t.post).length+t2.post.length<=9223372036854775807:=by simp;omega
    have c5:((([]:List Pc)++t.post++t2.post).length+([(2,[0,0,0,0])]:List Pc).length)*40<=140737488355328:=by simp;omega
    have c6:(([]:List Pc)++t.post++t2.post).length+([(2,[0,0,0,0])]:List Pc).length<=9223372036854775807:=by simp;omega
    have e:([]:List Pc)++t.post++t2.post++[(2,[0,0,0,0])]=(Rx.cat t t2).post:=rfl
    rw[gN t2,cond_false,if_pos c1,if_pos c2,if_pos c3,if_pos c4,if_pos c5,if_pos c6,e,gN,cond_false]
    exact hk (s.length-j2) _ (by omega) ⟨j2,.cat t t2,bM,rfl,⟨by omega,by omega,by simp only[Rx.len];omega,g4,f4⟩,by omega,rfl,hl⟩
  ·rw[if_neg hc]at hl
   rw[decide_eq_false hc,cond_false]
   subst hl
   rfl
theorem xS{s:List Int}(hb:Bytes s)(hs:s.length<=1600){q2 q3 q4 q5:RfF}{inner:Nat->Nat->Option (Rx×Nat)}{i d:Nat}(hi:i<=s.length)
 (tZ:∀ j,i<=j->j<=s.length->OkQ (jV inner s j d) (q3 (s,((j:Int),((d:Int),()))))) (bR:∀ j,i<=j->iW s j (jV inner s j d)):
 OkQ (xN inner s i d) (C7 N0 q2 q3 q4 q5 (s,((i:Int),((d:Int),())))):=by
 have hsm:s.length<=maxLen:=by unfold maxLen;omega
 unfold C7
 dsimp only
 unfold xN
 have dA:=tZ i (ar _) hi
 unfold OkQ at dA
 cases ho:jV inner s i d with
 |none=>
  rw[ho]at dA
  obtain⟨k0,hq⟩:=dA
  rw[aa hq]
  refine dz (λm x=>x=((),(k0,([],())))) (OkQ none) ?_ N0 0 _ (by unfold N0;omega) rfl
  rintro m x rfl k hk
  exact⟨_,rfl⟩
 |some p=>
  obtain⟨t0,j0⟩:=p
  rw[ho]at dA
  dsimp only at dA
  have hr0:=bR i (ar _) t0 j0 ho
  rw[aa dA]
  dsimp only
  generalize hrs:pN inner s d s.length.succ j0 t0=res
  refine dz (λm x=>∃ (j:Nat) (t:Rx) (bM:Nat),x=((),((j:Int),(t.post,())))/\Res s i t j/\s.length-j<bM/\m=s.length-j/\pN inner s d bM j t=res) (OkQ res) ?_ N0 (s.length-j0) _ (by unfold N0;omega) ⟨j0,t0,_,rfl,hr0,by omega,rfl,hrs⟩
  rintro m x ⟨j,t,bM,rfl,hr,hf,hm,hl⟩ k hk
  obtain⟨bM,rfl⟩:∃ q,bM=q+1:=⟨bM-1,by omega⟩
  simp only[pN]at hl
  dsimp only
  have n1:(0:Int)<=(j:Int):=by omega
  refine dw (P:=OkQ _) ((),(decide (j<s.length/\ch s j=124),())) (λK=>?_) ?_
  ·rw[gN t,aG,cond_true]
   rcases av j s.length with h|h
   ·rw[decide_eq_true (show(j:Int)<((s.length:Nat):Int) by omega),cond_true,if_pos n1,af,fX h]
    have e:decide (j<s.length/\ch s j=124)=decide (ch s j=124):=by
     rw[decide_eq_decide];exact⟨λh=>h.2,λh2=>⟨h,h2⟩⟩
    rw[e]
   ·have e:decide (j<s.length/\ch s j=124)=false:=decide_eq_false (λh2=>by omega)
    rw[decide_eq_false (show ¬(j:Int)<((s.length:Nat):Int) by omega),cond_false,e]
  dsimp only
  by_cases hc:j<s.length/\ch s j=124
  ·rw[if_pos hc]at hl
   obtain⟨g1,g2,g3,g4⟩:=hr
   have tl:=t.aN
   rw[decide_eq_true hc,cond_true,cE (by omega)]
   have hq:=tZ (j+1) (by omega) (by omega)
   unfold OkQ at hq
   cases h2:jV inner s (j+1) d with
   |none=>
    rw[h2]at hq hl
    obtain⟨k0,hq⟩:=hq
    rw[aa hq]
    subst hl
    exact⟨_,rfl⟩
   |some p=>
    obtain⟨t2,j2⟩:=p
    rw[h2]at hq hl
    dsimp only at hq hl
    obtain⟨f1,f2,f3,f4⟩:=bR (j+1) (by omega) t2 j2 h2
    have tl2:=t2.aN
    rw[aa hq]
    dsimp only
    have c1:(([]:List Pc).length+t.post.length)*40<=140737488355328:=by simp;omega
    have c2:([]:List Pc).length+t.post.length<=9223372036854775807:=by simp;omega
    have c3:((([]:List Pc)++t.post).length+t2.post.length)*40<=140737488355328:=by simp;omega
    have c4:(([]:List Pc)++t.post).length+t2.post.length<=9223372036854775807:=by simp;omega
    have c5:((([]:List Pc)++t.post++t2.post).length+([(3,[0,0,0,0])]:List Pc).length)*40<=140737488355328:=by simp;omega
    have c6:(([]:List Pc)++t.post++t2.post).length+([(3,[0,0,0,0])]:List Pc).length<=9223372036854775807:=by simp;omega
    have e:([]:List Pc)++t.post++t2.post++[(3,[0,0,0,0])]=(Rx.alt t t2).post:=rfl
    rw[gN t2,cond_false,if_pos c1,if_pos c2,if_pos c3,if_pos c4,if_pos c5,if_pos c6,e,gN,cond_false]
    exact hk (s.length-j2) _ (by omega) ⟨j2,.alt t t2,bM,rfl,⟨by omega,by omega,by simp only[Rx.len];omega,g4,f4⟩,by omega,rfl,hl⟩
  ·rw[if_neg hc]at hl
   rw[decide_eq_false hc,cond_false]
   subst hl
   rfl
theorem GB{s:List Int}(hb:Bytes s)(hs:s.length<=1600):∀ (n D i d:Nat),4*n<=D->s.length-i<n->i<=s.length->d<=i->OkQ (iV s n i d) ((cK N0 D).1 (s,((i:Int),((d:Int),())))):=by
 intro n
 induction n with
 |zero=>intro D i d _ h;omega
 |succ n ih=>
  intro D i d hD hn hi hd
  obtain⟨D,rfl⟩:∃ q,D=q+1+1+1+1:=⟨D-4,by omega⟩
  have bR:∀ i d,s.length-i<n->iW s i (iV s n i d):=λi d h=>iP hb n i d h
  have Bd:∀ j,i<=j->iW s (j+1) (iV s n (j+1) (d+1)):=λj hij t j2 h=>by
   rcases av j s.length with hlt|hge
   ·exact bR (j+1) (d+1) (by omega) t j2 h
   ·cases n with
    |zero=>cases h
    |succ n=>exact iP hb (n+1) (j+1) (d+1) (by omega) t j2 h
  have dA:∀ j,i<=j->j<=s.length->OkQ (kK (iV s n) s j d) ((cK N0 (D+1)).2.2.2 (s,((j:Int),((d:Int),())))):=λj hij hj=>
   Gz (q2:=(cK N0 (D)).1) (q3:=(cK N0 (D)).2.1) (q4:=(cK N0 (D)).2.2.1) (q5:=(cK N0 (D)).2.2.2) hb hs (bn hd hij) (λhlt=>ih D (j+1) (d+1) (by omega) (by omega) (by omega) (by omega)) (Bd j hij)
  have bh:∀ j,i<=j->j<=s.length->OkQ (jl (iV s n) s j d) ((cK N0 (D+1+1)).2.2.1 (s,((j:Int),((d:Int),())))):=λj hij hj=>
   xR (q2:=(cK N0 (D+1)).1) (q3:=(cK N0 (D+1)).2.1) (q4:=(cK N0 (D+1)).2.2.1) (q5:=(cK N0 (D+1)).2.2.2) hb hs (dA j hij hj) (q8 hb (Bd j hij))
  have tZ:∀ j,i<=j->j<=s.length->OkQ (jV (iV s n) s j d) ((cK N0 (D+1+1+1)).2.1 (s,((j:Int),((d:Int),())))):=λj hij hj=>
   GA (q2:=(cK N0 (D+1+1)).1) (q3:=(cK N0 (D+1+1)).2.1) (q4:=(cK N0 (D+1+1)).2.2.1) (q5:=(cK N0 (D+1+1)).2.2.2) hb hs hj (λj2 hj2 hj3=>bh j2 (bn hij hj2) hj3) (λj2 hj2=>nE hb (Bd j2 (bn hij hj2)))
  exact xS (q2:=(cK N0 (D+1+1+1)).1) (q3:=(cK N0 (D+1+1+1)).2.1) (q4:=(cK N0 (D+1+1+1)).2.2.1) (q5:=(cK N0 (D+1+1+1)).2.2.2) hb hs hi tZ (λj hij t j2 h=>nF hb n bR (by omega) t j2 h)
theorem GC{s:List Int}(hb:Bytes s):IJ N0 (s,())=some (DC (fk s)):=by
 unfold IJ fk
 dsimp only
 by_cases hs:1600<s.length
 ·rw[if_pos hs,decide_eq_true (show(1600:Int)<((s.length:Nat):Int) by omega),cond_true]
  rfl
 rw[if_neg hs,decide_eq_false (show ¬(1600:Int)<((s.length:Nat):Int) by omega),cond_false]
 have hq:OkQ (iV s s.length.succ 0 0) (KA N0 (s,(((0:Nat):Int),(((0:Nat):Int),())))):=GB hb (by omega) s.length.succ N0 0 0 (by unfold N0;omega) (by omega) (bT _) (ar _)
 have e0:(s,(((0:Nat):Int),(((0:Nat):Int),())))=(s,((0:Int),((0:Int),()))):=rfl
 rw[e0]at hq
 unfold OkQ at hq
 cases ho:iV s s.length.succ 0 0 with
 |none=>
  rw[ho]at hq
  obtain⟨k,hq⟩:=hq
  rw[aa hq]
  rfl
 |some p=>
  obtain⟨t,i⟩:=p
  rw[ho]at hq
  dsimp only at hq
  rw[aa hq]
  dsimp only
  refine aQ ((),(decide (i<s.length),())) (λK=>?_) ?_
  ·have:decide (((i:Nat):Int)<((s.length:Nat):Int))=decide (i<s.length):=by rw[decide_eq_decide];omega
   rw[gN t,cond_false,this]
  dsimp only
  by_cases h2:i<s.length
  ·rw[if_pos h2,decide_eq_true h2];rfl
  rw[if_neg h2,decide_eq_false h2,cond_false]
  rw[t.aN]
  by_cases h3:400<t.len
  ·rw[if_pos h3,decide_eq_true (show(400:Int)<((t.len:Nat):Int) by omega)];rfl
  ·rw[if_neg h3,decide_eq_false (show ¬(400:Int)<((t.len:Nat):Int) by omega)];rfl
end
noncomputable section
def bY(k:Int):Int:=if k=0\/k=1 then 0 else if k=2\/k=3 then 2 else 1
theorem DL:∀ k:Fin 7,Db N0 (((k.val:Nat):Int),())=some ((bY ((k.val:Nat):Int),()),()):=by decide +kernel
theorem pT{k:Int}(h:0<=k/\k<=6):Db N0 (k,())=some ((bY k,()),()):=by
 have:=DL ⟨k.toNat,by omega⟩
 simp only[cF h.1]at this
 exact this
theorem xT{k:Int}{a:Rx}(h:(Rx.rep k a).ok):0<=k/\k<=6/\bY k=1:=by
 rcases h.1 with rfl|rfl|rfl <;> decide
theorem xU{r:List Pc}(hr:r.length<=100000)(body)(KY:body=(λ(v3:Unit×(Int×(Int×Unit)))=>(λ(v4:(Unit×(Int×(Int×Unit)))->Option ((Int×Unit)×Unit))=>
 (bif decide (0<=v3.2.2.1)then(if 0<=v3.2.2.1 then(match r[(v3.2.2.1).toNat]? with|some v5=>(ah (Db N0 (v5.1,())) (λv6=>(bif decide ((IntKind.wrap .i64 ((IntKind.wrap .i64 (v3.2.1-1))+v6.1.1))=0)then(some ((v3.2.2.1,()),()))else(v4 ((),((IntKind.wrap .i64 ((IntKind.wrap .i64 (v3.2.1-1))+v6.1.1)),((IntKind.wrap .i64 (v3.2.2.1-1)),())))))))|none=>none)else none)else(some ((0,()),())))))):
 ∀ (t:Rx) (F n:Nat) (l rest:List Pc),t.ok->r=l++t.post++rest->1<=n->n+t.len<=1000000->aA body (F+t.len) ((),((n:Int),(((l.length+t.len:Nat):Int)-1,())))=if n=1 then some ((((l.length:Nat):Int),()),())else aA body F ((),((n:Int)-1,(((l.length:Nat):Int)-1,()))):=by
 -- one step
 have step:∀ (F:Nat) (n i:Nat) (p:Pc),r[i]?=some p->0<=p.1/\p.1<=6->1<=n->n<=1000000->
  aA body (F+1) ((),((n:Int),((i:Int),())))=if(n:Int)-1+bY p.1=0 then some ((((i:Nat):Int),()),())else aA body F ((),((n:Int)-1+bY p.1,((i:Int)-1,()))):=by
  intro F n i p hp hk hn1 hn2
  have hi:i<r.length:=by
   rcases av i r.length with h|h
   ·exact h
   ·rw[br h]at hp;cases hp
  have ht:0<=bY p.1/\bY p.1<=2:=by
   unfold bY
   split
   ·omega
   ·split <;> omega
  rw[ew,KY]
  simp only
  have n0:(0:Int)<=(i:Int):=by omega
  have w1:IntKind.wrap .i64 ((n:Int)-1)=(n:Int)-1:=bI (by omega) (by omega)
  have w2:IntKind.wrap .i64 ((n:Int)-1+bY p.1)=(n:Int)-1+bY p.1:=bI (by omega) (by omega)
  have w3:IntKind.wrap .i64 ((i:Int)-1)=(i:Int)-1:=bI (by omega) (by omega)
  simp only[decide_eq_true n0,cond_true,if_pos n0,af,hp,pT hk,bL,w1,w2,w3]
  by_cases h:(n:Int)-1+bY p.1=0
  ·rw[if_pos h,decide_eq_true h,cond_true]
  ·rw[if_neg h,decide_eq_false h,cond_false]
 intro t
 induction t with
 |eps=>
  intro F n l rest _ hr2 hn1 hn2
  simp only[Rx.len]
  have hp:r[l.length]?=some (0,zS):=by rw[hr2];simp[Rx.post]
  have e:((l.length+1:Nat):Int)-1=((l.length:Nat):Int):=by omega
  rw[e,step F n l.length _ hp (by decide) hn1 (by omega)]
  have e2:bY ((0,zS):Pc).1=0:=rfl
  rw[e2,Int.add_zero]
  by_cases h:n=1
  ·rw[if_pos h,if_pos (by omega)]
  ·rw[if_neg h,if_neg (by omega)]
 |set S=>
  intro F n l rest _ hr2 hn1 hn2
  simp only[Rx.len]
  have hp:r[l.length]?=some (1,S):=by rw[hr2];simp[Rx.post]
  have e:((l.length+1:Nat):Int)-1=((l.length:Nat):Int):=by omega
  rw[e,step F n l.length _ hp ⟨(by decide:(0:Int)<=1),(by decide:(1:Int)<=6)⟩ hn1 (by omega)]
  have e2:bY ((1,S):Pc).1=0:=rfl
  rw[e2,Int.add_zero]
  by_cases h:n=1
  ·rw[if_pos h,if_pos (by omega)]
  ·rw[if_neg h,if_neg (by omega)]
 |cat a b iha ihb=>
  intro F n l rest hok hr2 hn1 hn2
  simp only[Rx.len]at hn2 |-
  have hp:r[l.length+(a.len+b.len)]?=some (2,zS):=by
   rw[hr2]
   simp[Rx.post,<-a.aN,<-b.aN,bV]
  have e:((l.length+(a.len+b.len+1):Nat):Int)-1=((l.length+(a.len+b.len):Nat):Int):=by omega
  rw[e,show F+(a.len+b.len+1)=(F+a.len+b.len)+1 by omega,step _ n _ _ hp (by decide) hn1 (by omega)]
  have e2:bY ((2,zS):Pc).1=2:=rfl
  rw[e2,if_neg (by omega)]
  have hb:=ihb (F+a.len) (n+1) (l++a.post) ([(2,zS)]++rest) hok.2 (by rw[hr2];simp[Rx.post]) (by omega) (by omega)
  rw[if_neg (by omega)]at hb
  have e3:(n:Int)-1+2=((n+1:Nat):Int):=by omega
  have e4:((l.length+(a.len+b.len):Nat):Int)-1=(((l++a.post).length+b.len:Nat):Int)-1:=by rw[al,a.aN];omega
  rw[e3,e4,hb]
  have ha:=iha F n l (b.post++[(2,zS)]++rest) hok.1 (by rw[hr2];simp[Rx.post]) hn1 (by omega)
  have e5:((n+1:Nat):Int)-1=(n:Int):=by omega
  rw[e5,al,a.aN,ha]
 |alt a b iha ihb=>
  intro F n l rest hok hr2 hn1 hn2
  simp only[Rx.len]at hn2 |-
  have hp:r[l.length+(a.len+b.len)]?=some (3,zS):=by
   rw[hr2]
   simp[Rx.post,<-a.aN,<-b.aN,bV]
  have e:((l.length+(a.len+b.len+1):Nat):Int)-1=((l.length+(a.len+b.len):Nat):Int):=by omega
  rw[e,show F+(a.len+b.len+1)=(F+a.len+b.len)+1 by omega,step _ n _ _ hp (by decide) hn1 (by omega)]
  have e2:bY ((3,zS):Pc).1=2:=rfl
  rw[e2,if_neg (by omega)]
  have hb:=ihb (F+a.len) (n+1) (l++a.post) ([(3,zS)]++rest) hok.2 (by rw[hr2];simp[Rx.post]) (by omega) (by omega)
  rw[if_neg (by omega)]at hb
  have e3:(n:Int)-1+2=((n+1:Nat):Int):=by omega
  have e4:((l.length+(a.len+b.len):Nat):Int)-1=(((l++a.post).length+b.len:Nat):Int)-1:=by rw[al,a.aN];omega
  rw[e3,e4,hb]
  have ha:=iha F n l (b.post++[(3,zS)]++rest) hok.1 (by rw[hr2];simp[Rx.post]) hn1 (by omega)
  have e5:((n+1:Nat):Int)-1=(n:Int):=by omega
  rw[e5,al,a.aN,ha]
 |rep k a iha=>
  intro F n l rest hok hr2 hn1 hn2
  simp only[Rx.len]at hn2 |-
  obtain⟨k1,k2,k3⟩:=xT hok
  have hp:r[l.length+a.len]?=some (k,zS):=by
   rw[hr2]
   simp[Rx.post,<-a.aN]
  have e:((l.length+(a.len+1):Nat):Int)-1=((l.length+a.len:Nat):Int):=by omega
  rw[e,show F+(a.len+1)=(F+a.len)+1 by omega,step _ n _ _ hp ⟨k1,k2⟩ hn1 (by omega)]
  have e2:bY ((k,zS):Pc).1=1:=k3
  rw[e2,if_neg (by omega)]
  have ha:=iha F n l ([(k,zS)]++rest) hok.2 (by rw[hr2];simp[Rx.post]) hn1 (by omega)
  have e5:(n:Int)-1+1=(n:Int):=by omega
  rw[e5,ha]
theorem yR{l rest:List Pc}{t:Rx}(hok:t.ok)(hl:(l++t.post++rest).length<=100000):AY N0 (l++t.post++rest,(((l.length+t.len:Nat):Int)-1,()))=some ((((l.length:Nat):Int),()),()):=by
 have hlen:t.len<=100000:=by
  have:=t.aN
  rw[al,al]at hl
  omega
 have h:=xU hl _ rfl t (N0-t.len) 1 l rest hok rfl (by omega) (by omega)
 rw[if_pos rfl,show N0-t.len+t.len=N0 by unfold N0;omega]at h
 exact h
end
noncomputable section
theorem nK{α:Type}(l m rest:List α):bZ (l++m++rest) ((l.length:Nat):Int) ((l.length+m.length:Nat):Int)=m:=by
 unfold bZ
 rw[af,af,nY,aT,lK,List.take_left]
theorem jf{r0:List Pc}{p:Pc}(h:r0.length<=100000):IntKind.wrap .i64 ((((r0++[p]).length:Nat):Int)-1)=((r0.length:Nat):Int)/\(r0++[p])[r0.length]?=some p:=by
 constructor
 ·have:((((r0++[p]).length:Nat):Int)-1)=((r0.length:Nat):Int):=by rw[al];simp
  rw[this];exact bo (by omega)
 ·simp
theorem Be{p:Pc}(hk:0<=p.1/\p.1<=6)(ht:bY p.1=0):vX N0 ([p],())=some (([],()),()):=by
 obtain⟨h1,h2⟩:=jf (r0:=[]) (p:=p) (by simp)
 unfold vX
 have n0:(0:Int)<=((([]:List Pc).length:Nat):Int):=by omega
 rw[bJ]at h1 h2
 simp only[h1,if_pos n0,af,h2,pT hk,bL,ht]
 refine ba (λm x r=>x=((),([],(((([]:List Pc).length:Nat):Int),((0:Int),()))))/\r=some (([],()),())) ?_ N0 0 _ _ (by unfold N0;omega) ⟨rfl,rfl⟩
 rintro m x r ⟨rfl,rfl⟩ k hk
 rfl
theorem sE{rest:List Pc}{t:Rx}(hok:t.ok)(hl:(t.post++rest).length<=100000):AY N0 (t.post++rest,(((t.post.length:Nat):Int)-1,()))=some (((0:Int),()),()):=by
 have e1:([]:List Pc)++t.post=t.post:=bJ _
 have:=yR (l:=[]) (rest:=rest) (t:=t) hok (by rw[e1];exact hl)
 have e2:([]:List Pc).length+t.len=t.post.length:=by rw[t.aN,eX,dF]
 have e3:((([]:List Pc).length:Nat):Int)=0:=rfl
 rw[e1,e2,e3]at this
 exact this
theorem DM{a:Rx}{p:Pc}(ha:a.ok)(hl:a.len<=10000)(hk:0<=p.1/\p.1<=6)(ht:bY p.1=1):vX N0 (a.post++[p],())=some (([a.post],()),()):=by
 have pl:=a.aN
 obtain⟨h1,h2⟩:=jf (r0:=a.post) (p:=p) (by omega)
 have n0:(0:Int)<=((a.post.length:Nat):Int):=by omega
 have q1:AY N0 (a.post++[p],(((a.post.length:Nat):Int)-1,()))=some (((0:Int),()),()):=by
  exact sE ha (by rw[al,gl];omega)
 unfold vX
 simp only[h1]
 rw[if_pos n0,af,h2]
 simp only
 rw[aa (pT hk),ht]
 simp only
 refine ba (λm x r=>((m=1/\x=((),([],(((a.post.length:Nat):Int),((1:Int),())))))\/(m=0/\x=((),([a.post],((0:Int),((0:Int),()))))))/\r=some (([a.post],()),())) ?_ N0 1 _ _ (by unfold N0;omega) ⟨.inl ⟨rfl,rfl⟩,rfl⟩
 rintro m x r ⟨hx,rfl⟩ k hk
 rcases hx with⟨rfl,rfl⟩|⟨rfl,rfl⟩
 ·have w1:IntKind.wrap .i64 (((a.post.length:Nat):Int)-1)=((a.post.length:Nat):Int)-1:=bI (by omega) (by omega)
  have c0:(0:Int)<=0/\(0:Int)<=((a.post.length:Nat):Int)/\((a.post.length:Nat):Int)<=(((a.post++[p]).length:Nat):Int):=⟨by omega,by omega,by rw[al];omega⟩
  have qZ:bZ (a.post++[p]) 0 ((a.post.length:Nat):Int)=a.post:=by
   have:=nK ([]:List Pc) a.post [p]
   simpa using this
  have f1:(([a.post]:List (List Pc)).length+([]:List (List Pc)).length)*24<=140737488355328:=by simp
  have f2:([a.post]:List (List Pc)).length+([]:List (List Pc)).length<=9223372036854775807:=by simp
  have w2:IntKind.wrap .i64 ((1:Int)-1)=0:=bI (by omega) (by omega)
  simp only[show decide ((0:Int)<1)=true from rfl,cond_true,w1,q1,bL,if_pos c0,qZ,if_pos f1,if_pos f2,w2,cQ]
  exact hk 0 _ _ (by omega) ⟨.inr ⟨rfl,rfl⟩,rfl⟩
 ·simp only[show decide ((0:Int)<0)=false from rfl,cond_false]
theorem wz{a b:Rx}{p:Pc}(ha:a.ok)(hb:b.ok)(hl:a.len+b.len<=10000)(hk:0<=p.1/\p.1<=6)(ht:bY p.1=2):vX N0 (a.post++b.post++[p],())=some (([a.post,b.post],()),()):=by
 have pl:=a.aN
 have pl2:=b.aN
 have NO:(a.post++b.post++[p]).length=(a.post++b.post).length+1:=by rw[al];rfl
 have lab:(a.post++b.post).length=a.post.length+b.post.length:=al
 obtain⟨h1,h2⟩:=jf (r0:=a.post++b.post) (p:=p) (by rw[al];omega)
 have n0:(0:Int)<=(((a.post++b.post).length:Nat):Int):=by omega
 have q1:AY N0 (a.post++b.post++[p],((((a.post++b.post).length:Nat):Int)-1,()))=some ((((a.post.length:Nat):Int),()),()):=by
  have:=yR (l:=a.post) (rest:=[p]) (t:=b) hb (by simp;omega)
  rw[al,pl2]
  exact this
 have q2:AY N0 (a.post++b.post++[p],(((a.post.length:Nat):Int)-1,()))=some (((0:Int),()),()):=by
  rw[aT]
  exact sE ha (by rw[al,al,gl];omega)
 unfold vX
 simp only[h1]
 rw[if_pos n0,af,h2]
 simp only
 rw[aa (pT hk),ht]
 simp only
 refine ba (λm x r=>((m=2/\x=((),([],((((a.post++b.post).length:Nat):Int),((2:Int),())))))\/(m=1/\x=((),([b.post],(((a.post.length:Nat):Int),((1:Int),())))))\/(m=0/\x=((),([a.post,b.post],((0:Int),((0:Int),()))))))/\r=some (([a.post,b.post],()),())) ?_ N0 2 _ _ (by unfold N0;omega) ⟨.inl ⟨rfl,rfl⟩,rfl⟩
 rintro m x r ⟨hx,rfl⟩ k hk
 rcases hx with⟨rfl,rfl⟩|⟨rfl,rfl⟩|⟨rfl,rfl⟩
 ·have w1:IntKind.wrap .i64 ((((a.post++b.post).length:Nat):Int)-1)=(((a.post++b.post).length:Nat):Int)-1:=bI (by omega) (by rw[al];omega)
  have c0:(0:Int)<=((a.post.length:Nat):Int)/\((a.post.length:Nat):Int)<=(((a.post++b.post).length:Nat):Int)/\(((a.post++b.post).length:Nat):Int)<=(((a.post++b.post++[p]).length:Nat):Int):=⟨by omega,by omega,by omega⟩
  have qZ:bZ (a.post++b.post++[p]) ((a.post.length:Nat):Int) (((a.post++b.post).length:Nat):Int)=b.post:=by
   rw[lab]
   exact nK a.post b.post [p]
  have f1:(([b.post]:List (List Pc)).length+([]:List (List Pc)).length)*24<=140737488355328:=by simp
  have f2:([b.post]:List (List Pc)).length+([]:List (List Pc)).length<=9223372036854775807:=by simp
  have w2:IntKind.wrap .i64 ((2:Int)-1)=1:=bI (by omega) (by omega)
  simp only[show decide ((0:Int)<2)=true from rfl,cond_true,w1,q1,bL,if_pos c0,qZ,if_pos f1,if_pos f2,w2,cQ]
  exact hk 1 _ _ (by omega) ⟨.inr (.inl ⟨rfl,rfl⟩),rfl⟩
 ·have w1:IntKind.wrap .i64 (((a.post.length:Nat):Int)-1)=((a.post.length:Nat):Int)-1:=bI (by omega) (by omega)
  have c0:(0:Int)<=0/\(0:Int)<=((a.post.length:Nat):Int)/\((a.post.length:Nat):Int)<=(((a.post++b.post++[p]).length:Nat):Int):=⟨by omega,by omega,by rw[al,al];omega⟩
  have qZ:bZ (a.post++b.post++[p]) 0 ((a.post.length:Nat):Int)=a.post:=by
   have:=nK ([]:List Pc) a.post (b.post++[p])
   simpa using this
  have f1:(([a.post]:List (List Pc)).length+([b.post]:List (List Pc)).length)*24<=140737488355328:=by simp
  have f2:([a.post]:List (List Pc)).length+([b.post]:List (List Pc)).length<=9223372036854775807:=by simp
  have w2:IntKind.wrap .i64 ((1:Int)-1)=0:=bI (by omega) (by omega)
  simp only[show decide ((0:Int)<1)=true from rfl,cond_true,w1,q2,bL,if_pos c0,qZ,if_pos f1,if_pos f2,w2]
  exact hk 0 _ _ (by omega) ⟨.inr (.inr ⟨rfl,rfl⟩),rfl⟩
 ·simp only[show decide ((0:Int)<0)=false from rfl,cond_false]
theorem ub(a b:Bool):F5 N0 ([a],([b],()))=some (([a||b],()),()):=by
 revert a b
 decide +kernel
abbrev EnF:=(List Pc×(List Int×(List Bool×Unit)))->Option ((List Bool×Unit)×Unit)
theorem DN{q2 q3:EnF}{r:List Pc}{n:Bool}(h:∀ b,q2 (r,([],([b],())))=some (([b&&n],()),()))(b:Bool):Dc N0 q2 q3 (r,([],([b],())))=some (([b],()),()):=by
 unfold Dc
 dsimp only
 refine ba (λm x q=>x=((),([b],((0:Int),())))/\q=some (([b],()),())) ?_ N0 0 _ _ (by unfold N0;omega) ⟨rfl,rfl⟩
 rintro m x q ⟨rfl,rfl⟩ k hk
 have e1:decide ((0:Int)<=((([]:List Int).length:Nat):Int))=true:=rfl
 have e2:(b||(b&&n))=b:=by cases b <;> rfl
 simp only[e1,cond_true,h b,bL,ub,e2]
 refine ba (λm x q=>((m=1/\x=((),(true,((0:Int),()))))\/(m=0/\x=((),(true,((1:Int),())))))/\q=some (([b],()),())) ?_ N0 1 _ _ (by unfold N0;omega) ⟨.inl ⟨rfl,rfl⟩,rfl⟩
 rintro m x q ⟨hx,rfl⟩ k2 hk2
 rcases hx with⟨rfl,rfl⟩|⟨rfl,rfl⟩
 ·have g0:([b]:List Bool)[((0:Int)).toNat]?=some b:=rfl
  have e3:decide ((0:Int)<(([b]:List Bool).length:Nat))=true:=rfl
  have n0:(0:Int)<=0:=by omega
  simp only[e3,cond_true,bA,if_pos n0,g0,beq_self_eq_true]
  exact hk2 0 _ _ (by omega) ⟨.inr ⟨rfl,rfl⟩,rfl⟩
 ·rfl
end
noncomputable section
theorem wA{α:Type}(x:α)(l:List α):(x::l)[((0:Int)).toNat]?=some x:=rfl
theorem KZ{α:Type}(x y:α)(l:List α):(x::y::l)[((1:Int)).toNat]?=some y:=rfl
theorem wB{p:Pc}(hk:0<=p.1/\p.1<=6)(ht:bY p.1=0):vX N0 ([]++[p],())=some (([],()),()):=by
 rw[bJ];exact Be hk ht
theorem z0:(0:Int)<=0:=by omega
theorem z1:(0:Int)<=1:=by omega
theorem GD:∀ (t:Rx),t.ok->t.len<=10000->∀ (D:Nat) (b:Bool),2*t.len<=D->(fV N0 D).1 (t.post,([],([b],())))=some (([b&&t.null],()),()):=by
 have c0:∀ b:Bool,(0:Int)<=(([b]:List Bool).length:Nat)/\((([b]:List Bool).length:Nat):Int)<=(([b]:List Bool).length:Nat):=λb=>⟨by omega,by omega⟩
 have c1:∀ b:Bool,(((([b]:List Bool).length:Nat):Int)).toNat*1<=140737488355328:=λb=>by rw[af,gl];omega
 intro t
 induction t with
 |eps=>
  intro _ _ D b hD
  obtain⟨D,rfl⟩:∃ q,D=q+1:=⟨D-1,by simp only[Rx.len]at hD;omega⟩
  obtain⟨h1,h2⟩:=jf (r0:=[]) (p:=(0,zS)) (by simp)
  have n0:(0:Int)<=((([]:List Pc).length:Nat):Int):=by omega
  show lr N0 (fV N0 D).1 (fV N0 D).2 ([]++[(0,zS)],([],([b],())))=_
  unfold lr
  simp only[h1]
  rw[if_pos (c0 b),if_pos (c1 b),aa (wB (p:=(0,zS)) (by decide) rfl)]
  simp only
  rw[if_pos n0,af,h2]
  simp only
  rw[decide_true,cond_true,Rx.null,Bool.and_true]
 |set S=>
  intro _ _ D b hD
  obtain⟨D,rfl⟩:∃ q,D=q+1:=⟨D-1,by simp only[Rx.len]at hD;omega⟩
  obtain⟨h1,h2⟩:=jf (r0:=[]) (p:=(1,S)) (by simp)
  have n0:(0:Int)<=((([]:List Pc).length:Nat):Int):=by omega
  show lr N0 (fV N0 D).1 (fV N0 D).2 ([]++[(1,S)],([],([b],())))=_
  unfold lr
  simp only[h1]
  rw[if_pos (c0 b),if_pos (c1 b),aa (wB (p:=(1,S)) ⟨z1,(by decide:(1:Int)<=6)⟩ rfl)]
  simp only
  rw[if_pos n0,af,h2]
  simp only
  rw[show decide ((1:Int)=0)=false from rfl,cond_false,decide_true,cond_true,Rx.null,Bool.and_false]
  refine ba (λm x q=>x=(([false],()),((0:Int),()))/\q=some (([false],()),())) ?_ N0 0 _ _ (by unfold N0;omega) ⟨rfl,rfl⟩
  rintro m x q ⟨rfl,rfl⟩ k hk
  simp only
  rw[show decide ((0:Int)<((([]:List Int).length:Nat):Int))=false from rfl,cond_false]
 |cat u v ihu ihv=>
  intro hok hl D b hD
  simp only[Rx.len]at hl hD
  obtain⟨D,rfl⟩:∃ q,D=q+1:=⟨D-1,by omega⟩
  obtain⟨h1,h2⟩:=jf (r0:=u.post++v.post) (p:=(2,zS)) (by rw[al,u.aN,v.aN];omega)
  have n0:(0:Int)<=(((u.post++v.post).length:Nat):Int):=by omega
  show lr N0 (fV N0 D).1 (fV N0 D).2 (u.post++v.post++[(2,zS)],([],([b],())))=_
  unfold lr
  simp only[h1]
  rw[if_pos (c0 b),if_pos (c1 b),aa (wz (p:=(2,zS)) hok.1 hok.2 (by omega) (by decide) rfl)]
  simp only
  rw[if_pos n0,af,h2]
  simp only
  rw[show decide ((2:Int)=0)=false from rfl,cond_false,show decide ((2:Int)=1)=false from rfl,cond_false,decide_true,cond_true,if_pos z1,KZ]
  simp only
  rw[if_pos z0,wA]
  simp only
  rw[aa (ihu hok.1 (by omega) D b (by omega))]
  simp only
  rw[aa (ihv hok.2 (by omega) D (b&&u.null) (by omega))]
  simp only
  rw[Rx.null,lJ]
 |alt u v ihu ihv=>
  intro hok hl D b hD
  simp only[Rx.len]at hl hD
  obtain⟨D,rfl⟩:∃ q,D=q+1:=⟨D-1,by omega⟩
  obtain⟨h1,h2⟩:=jf (r0:=u.post++v.post) (p:=(3,zS)) (by rw[al,u.aN,v.aN];omega)
  have n0:(0:Int)<=(((u.post++v.post).length:Nat):Int):=by omega
  show lr N0 (fV N0 D).1 (fV N0 D).2 (u.post++v.post++[(3,zS)],([],([b],())))=_
  unfold lr
  simp only[h1]
  rw[if_pos (c0 b),if_pos (c1 b),aa (wz (p:=(3,zS)) hok.1 hok.2 (by omega) (by decide) rfl)]
  simp only
  rw[if_pos n0,af,h2]
  simp only
  rw[show decide ((3:Int)=0)=false from rfl,cond_false,show decide ((3:Int)=1)=false from rfl,cond_false,show decide ((3:Int)=2)=false from rfl,cond_false,decide_true,cond_true,if_pos z0,wA]
  simp only
  rw[aa (ihu hok.1 (by omega) D b (by omega))]
  simp only
  rw[if_pos z1,KZ]
  simp only
  rw[aa (ihv hok.2 (by omega) D b (by omega))]
  simp only
  rw[aa (ub _ _),Rx.null]
  have e:((b&&u.null)||(b&&v.null))=(b&&(u.null||v.null)):=by cases b <;> simp
  simp only
  rw[e]
 |rep kd u ihu=>
  intro hok hl D b hD
  simp only[Rx.len]at hl hD
  have hup:=u.bu
  obtain⟨D,rfl⟩:∃ q,D=q+1+1:=⟨D-2,by omega⟩
  obtain⟨k1,k2,k3⟩:=xT hok
  obtain⟨h1,h2⟩:=jf (r0:=u.post) (p:=(kd,zS)) (by rw[u.aN];omega)
  have n0:(0:Int)<=((u.post.length:Nat):Int):=by omega
  show lr N0 (fV N0 (D+1)).1 (fV N0 (D+1)).2 (u.post++[(kd,zS)],([],([b],())))=_
  unfold lr
  simp only[h1]
  rw[if_pos (c0 b),if_pos (c1 b),aa (DM (p:=(kd,zS)) hok.2 (by omega) ⟨k1,k2⟩ k3)]
  simp only
  rw[if_pos n0,af,h2]
  simp only
  have hag:∀ b:Bool,(fV N0 (D+1)).2 (u.post,([],([b],())))=some (([b],()),()):=λb=>
   DN (q2:=(fV N0 D).1) (q3:=(fV N0 D).2) (n:=u.null) (λb=>ihu hok.2 (by omega) D b (by omega)) b
  have hu:=λb=>ihu hok.2 (by omega) (D+1) b (by omega)
  rcases hok.1 with rfl|rfl|rfl
  ·rw[show decide ((4:Int)=0)=false from rfl,cond_false,show decide ((4:Int)=1)=false from rfl,cond_false,show decide ((4:Int)=2)=false from rfl,cond_false,show decide ((4:Int)=3)=false from rfl,cond_false,show decide ((4:Int)=6)=false from rfl,cond_false,if_pos n0]
   rw[show decide ((4:Int)=4)=true from rfl,cond_true,if_pos z0,wA]
   simp only
   rw[aa (hag b)]
   simp only
   have e:(b&&(Rx.rep 4 u).null)=b:=by simp[Rx.null]
   rw[e]
  ·rw[show decide ((5:Int)=0)=false from rfl,cond_false,show decide ((5:Int)=1)=false from rfl,cond_false,show decide ((5:Int)=2)=false from rfl,cond_false,show decide ((5:Int)=3)=false from rfl,cond_false,show decide ((5:Int)=6)=false from rfl,cond_false,if_pos n0]
   rw[show decide ((5:Int)=4)=false from rfl,cond_false,if_pos z0,wA]
   simp only
   rw[if_pos z0]
   rw[aa (hu b)]
   simp only
   rw[aa (hag _)]
   simp only
   have e:(Rx.rep 5 u).null=u.null:=by simp[Rx.null]
   rw[e]
  ·rw[show decide ((6:Int)=0)=false from rfl,cond_false,show decide ((6:Int)=1)=false from rfl,cond_false,show decide ((6:Int)=2)=false from rfl,cond_false,show decide ((6:Int)=3)=false from rfl,cond_false,show decide ((6:Int)=6)=true from rfl,cond_true,if_pos z0,wA]
   simp only
   rw[aa (hu b)]
   simp only
   rw[aa (ub _ _)]
   simp only
   have e:(b||(b&&u.null))=(b&&(Rx.rep 6 u).null):=by cases b <;> simp[Rx.null]
   rw[e]
theorem GF{t:Rx}(hok:t.ok)(hl:t.len<=10000):IK N0 (t.post,([],()))=some ((t.null,()),()):=by
 have h:=GD t hok hl N0 true (by unfold N0;omega)
 unfold IK
 have w:IntKind.wrap .i64 ((((([]:List Int).length:Nat):Int))+1)=1:=bI (by simp) (by simp)
 simp only[w]
 rw[if_pos (show(0:Int)<=1/\(1:Int)<=1 by omega),if_pos (show((1:Int)).toNat*1<=140737488355328 by decide),if_pos z0,show(List.replicate ((1:Int)).toNat false)[((0:Int)).toNat]?=some false from rfl]
 simp only
 rw[if_pos z0,show(List.replicate ((1:Int)).toNat false).set ((0:Int)).toNat true=[true]from rfl]
 have h2:KB N0 (t.post,([],([true],())))=some (([true&&t.null],()),()):=h
 rw[aa h2]
 simp only
 rw[show(((([]:List Int).length:Nat):Int))=0 from rfl,if_pos z0,wA]
 simp only
 rw[bK]
end
noncomputable section
theorem pU{S:List Int}{w:Nat}{x:Int}(hx:S[w]?=some x)(h:0<=x/\x<=18446744073709551615):x=((a8 (λi=>((S[i / 64]?).getD 0).toNat.testBit (i % 64)) w:Nat):Int):=by
 have:x.toNat=a8 (λi=>((S[i / 64]?).getD 0).toNat.testBit (i % 64)) w:=by
  apply l8
  intro i
  by_cases hi:i<64
  ·have e1:(64*w+i) / 64=w:=by omega
   have e2:(64*w+i) % 64=i:=by omega
   rw[e1,e2,hx,decide_eq_true hi,bK]
   rfl
  ·rw[decide_eq_false hi,dE]
   apply n9
   have:x.toNat<2 ^ 64:=by omega
   exact bc this (oc (by omega) (by omega))
 omega
theorem yS{S:List Int}(h1:S.length=4)(h2:∀ x∈S,0<=x/\x<=18446744073709551615):∃ l,S=ofB l:=by
 match S,h1 with
 |[a,b,c,d],_=>
  refine⟨λi=>((([a,b,c,d]:List Int)[i / 64]?).getD 0).toNat.testBit (i % 64),?_⟩
  have e0:=pU (S:=[a,b,c,d]) (w:=0) rfl (h2 a (by simp))
  have e1:=pU (S:=[a,b,c,d]) (w:=1) rfl (h2 b (by simp))
  have e2:=pU (S:=[a,b,c,d]) (w:=2) rfl (h2 c (by simp))
  have e3:=pU (S:=[a,b,c,d]) (w:=3) rfl (h2 d (by simp))
  unfold ofB
  rw[<-e0,<-e1,<-e2,<-e3]
theorem wC{S:List Int}(h1:S.length=4)(h2:∀ x∈S,0<=x/\x<=18446744073709551615):pL N0 (S,())=some ((decide (S=zS),()),()):=by
 obtain⟨l,rfl⟩:=yS h1 h2
 rw[yK]
 have:dy l=decide (ofB l=zS):=by
  rw[cY,decide_eq_true_eq,fW]
 rw[this]
theorem pV:pL N0 (zS,())=some ((true,()),()):=by
 rw[wC rfl (by decide)]
 rfl
theorem gE{k:Int}(h:0<=k/\k<=6):vS N0 (k,())=some ((bY k,()),()):=by
 rw[tY]
 have:(if k=0\/k=1 then(0:Int)else if k=4\/k=5\/k=6 then 1 else if k=2\/k=3 then 2 else -1)=bY k:=by
  unfold bY
  by_cases h0:k=0\/k=1
  ·rw[if_pos h0,if_pos h0]
  ·rw[if_neg h0,if_neg h0]
   by_cases h1:k=2\/k=3
   ·rw[if_neg (by omega),if_pos h1,if_pos h1]
   ·rw[if_pos (by omega),if_neg h1]
 rw[this]
abbrev ChS:=Unit×(Int×(Int×Unit))
def chB(r:List Pc):ChS->(ChS->Option ((Int×Unit)×Unit))->Option ((Int×Unit)×Unit):=λv3 v4=>
 (bif decide (v3.2.2.1<((r.length:Nat):Int))then(if 0<=v3.2.2.1 then(match r[(v3.2.2.1).toNat]? with|some v5=>(ah (vS N0 (v5.1,())) λv6=>(aq (λ(v7:Unit×(Bool×Unit))=>(bif v7.2.1 then some ((5,()),())else v4 ((),(IntKind.wrap .i64 (v3.2.1+IntKind.wrap .i64 (1-v6.1.1)),(IntKind.wrap .i64 (v3.2.2.1+1),()))))) λv8=>(bif decide (v6.1.1<0)then v8 ((),(true,()))else(bif decide (v3.2.1<v6.1.1)then v8 ((),(true,()))else(ah (pL N0 (v5.2,())) λv9=>v8 ((),((decide (v5.1=1) == v9.1.1),())))))))|none=>none)else none)else(bif !decide (v3.2.1=1)then some ((5,()),())else some ((0,()),())))
theorem nL{r:List Pc}(hr:r.length<=100000)(F d i:Nat)(p:Pc)(hp:r[i]?=some p)(hk:0<=p.1/\p.1<=6)(hd:bY p.1<=(d:Int))(hd2:d<=1000000)(hs:pL N0 (p.2,())=some ((!decide (p.1=1),()),())):
 aA (chB r) (F+1) ((),((d:Int),((i:Int),())))=aA (chB r) F ((),((d:Int)+(1-bY p.1),(((i+1:Nat):Int),()))):=by
 have hi:i<r.length:=by
  rcases av i r.length with h|h
  ·exact h
  ·rw[br h]at hp;cases hp
 have ht:0<=bY p.1/\bY p.1<=2:=by
  unfold bY
  split
  ·omega
  ·split <;> omega
 rw[ew]
 unfold chB
 simp only
 have n0:(0:Int)<=(i:Int):=by omega
 have w1:IntKind.wrap .i64 (1-bY p.1)=1-bY p.1:=bI (by omega) (by omega)
 have w2:IntKind.wrap .i64 ((d:Int)+(1-bY p.1))=(d:Int)+(1-bY p.1):=bI (by omega) (by omega)
 rw[decide_eq_true (show(i:Int)<((r.length:Nat):Int) by omega),cond_true,if_pos n0,af,hp]
 simp only
 rw[aa (gE hk)]
 simp only
 refine aQ ((),(false,())) (λK=>?_) ?_
 ·rw[decide_eq_false (show ¬bY p.1<0 by omega),cond_false,decide_eq_false (show ¬(d:Int)<bY p.1 by omega),cond_false,aa hs]
  cases decide (p.1=1) <;> rfl
 ·simp only
  rw[cond_false,w1,w2,cE (by omega)]
theorem GG{r:List Pc}(hr:r.length<=100000):∀ (t:Rx) (F d:Nat) (l rest:List Pc),t.ok->r=l++t.post++rest->d+t.len<=1000000->
 aA (chB r) (F+t.len) ((),((d:Int),((l.length:Int),())))=aA (chB r) F ((),(((d+1:Nat):Int),(((l.length+t.len:Nat):Int),()))):=by
 intro t
 induction t with
 |eps=>
  intro F d l rest _ hr2 hd
  simp only[Rx.len]
  have hp:r[l.length]?=some (0,zS):=by rw[hr2];simp[Rx.post]
  rw[nL hr F d l.length _ hp (by decide) (by show(0:Int)<=_;omega) (by omega) pV]
  rfl
 |set S=>
  intro F d l rest hok hr2 hd
  simp only[Rx.len]
  have hp:r[l.length]?=some (1,S):=by rw[hr2];simp[Rx.post]
  have hs:=wC hok.1 hok.2.2
  rw[decide_eq_false hok.2.1]at hs
  rw[nL hr F d l.length _ hp ⟨z1,(by decide:(1:Int)<=6)⟩ (by show(0:Int)<=_;omega) (by omega) hs]
  rfl
 |cat a b iha ihb=>
  intro F d l rest hok hr2 hd
  simp only[Rx.len]at hd |-
  have pa:=a.bu
  have pb:=b.bu
  have hp:r[l.length+a.len+b.len]?=some (2,zS):=by
   rw[hr2]
   simp[Rx.post,<-a.aN,<-b.aN,bV]
  rw[show F+(a.len+b.len+1)=(F+1+b.len)+a.len by omega,iha (F+1+b.len) d l (b.post++[(2,zS)]++rest) hok.1 (by rw[hr2];simp[Rx.post]) (by omega)]
  have hb:=ihb (F+1) (d+1) (l++a.post) ([(2,zS)]++rest) hok.2 (by rw[hr2];simp[Rx.post]) (by omega)
  rw[al,a.aN]at hb
  rw[hb,nL hr F (d+1+1) _ _ hp (by decide) (by show(2:Int)<=_;omega) (by omega) pV]
  have e1:((d+1+1:Nat):Int)+(1-bY ((2,zS):Pc).1)=((d+1:Nat):Int):=by
   show _+(1-2:Int)=_
   omega
  have e2:l.length+a.len+b.len+1=l.length+(a.len+b.len+1):=by omega
  rw[e1,e2]
 |alt a b iha ihb=>
  intro F d l rest hok hr2 hd
  simp only[Rx.len]at hd |-
  have pa:=a.bu
  have pb:=b.bu
  have hp:r[l.length+a.len+b.len]?=some (3,zS):=by
   rw[hr2]
   simp[Rx.post,<-a.aN,<-b.aN,bV]
  rw[show F+(a.len+b.len+1)=(F+1+b.len)+a.len by omega,iha (F+1+b.len) d l (b.post++[(3,zS)]++rest) hok.1 (by rw[hr2];simp[Rx.post]) (by omega)]
  have hb:=ihb (F+1) (d+1) (l++a.post) ([(3,zS)]++rest) hok.2 (by rw[hr2];simp[Rx.post]) (by omega)
  rw[al,a.aN]at hb
  rw[hb,nL hr F (d+1+1) _ _ hp (by decide) (by show(2:Int)<=_;omega) (by omega) pV]
  have e1:((d+1+1:Nat):Int)+(1-bY ((3,zS):Pc).1)=((d+1:Nat):Int):=by
   show _+(1-2:Int)=_
   omega
  have e2:l.length+a.len+b.len+1=l.length+(a.len+b.len+1):=by omega
  rw[e1,e2]
 |rep k a iha=>
  intro F d l rest hok hr2 hd
  simp only[Rx.len]at hd |-
  obtain⟨k1,k2,k3⟩:=xT hok
  have hp:r[l.length+a.len]?=some (k,zS):=by
   rw[hr2]
   simp[Rx.post,<-a.aN]
  have hk1:decide (k=1)=false:=by
   rcases hok.1 with rfl|rfl|rfl <;> rfl
  have hs:pL N0 (((k,zS):Pc).2,())=some ((!decide (((k,zS):Pc).1=1),()),()):=by
   show pL N0 (zS,())=some ((!decide (k=1),()),())
   rw[pV,hk1];rfl
  rw[show F+(a.len+1)=(F+1)+a.len by omega,iha (F+1) d l ([(k,zS)]++rest) hok.2 (by rw[hr2];simp[Rx.post]) (by omega),
   nL hr F (d+1) _ _ hp ⟨k1,k2⟩ (by show bY k<=_;rw[k3];omega) (by omega) hs]
  have e1:((d+1:Nat):Int)+(1-bY ((k,zS):Pc).1)=((d+1:Nat):Int):=by
   show _+(1-bY k)=_
   rw[k3];omega
  have e2:l.length+a.len+1=l.length+(a.len+1):=by omega
  rw[e1,e2]
theorem GH{t:Rx}(hok:t.ok)(hl:t.len<=400):FN N0 (t.post,())=some ((0,()),()):=by
 have tl:=t.aN
 have h:=GG (r:=t.post) (by omega) t (N0-t.len) 0 [] [] hok (by simp) (by omega)
 rw[show N0-t.len+t.len=N0 by unfold N0;omega]at h
 unfold FN
 simp only
 rw[decide_eq_false (show ¬(400:Int)<((t.post.length:Nat):Int) by omega),cond_false]
 refine Eq.trans h ?_
 obtain⟨q,hq⟩:∃ q,N0-t.len=q+1:=⟨N0-t.len-1,by unfold N0;omega⟩
 rw[hq,ew]
 unfold chB
 simp only
 have e:((([]:List Pc).length+t.len:Nat):Int)=((t.post.length:Nat):Int):=by rw[tl];simp
 rw[e,decide_eq_false (show ¬((t.post.length:Nat):Int)<((t.post.length:Nat):Int) by omega),cond_false]
 rfl
end
noncomputable section
abbrev EdI:=Int×(Int×(List Int×Bool))
abbrev edI(e:Ed):EdI:=((e.1:Int),((e.2.1:Int),(e.2.2.1,e.2.2.2)))
abbrev NfI:=Int×(List EdI×(Int×Int))
def nf(n:Nat)(E:List Ed):NfI:=((n:Int),(E.map edI,(0,0)))
theorem nM{n:Nat}(hn:n<=100000)(E:List Ed):FO N0 (nf n E,())=some ((((n:Int),((n+1:Nat):Int)),()),(nf (n+2) E,())):=by
 have h:∀ m:Nat,m<=100001->C1 N0 (nf m E,())=some (((m:Int),()),(nf (m+1) E,())):=by
  intro m hm
  have w:IntKind.wrap .i64 (((m+1:Nat):Int)-1)=(m:Int):=by
   have:((m+1:Nat):Int)-1=(m:Int):=by omega
   rw[this];exact bo (by omega)
  unfold C1 nf
  simp only[cE (show m+1<9223372036854775808 by omega),w]
 unfold FO
 simp only[h n (by omega),h (n+1) (by omega),bL]
theorem eK{E:List Ed}(hE:E.length<=100000)(n f l:Nat):oT N0 (nf n E,((f:Int),((l:Int),())))=some ((),(nf n (E++[fE f l]),())):=by
 unfold oT nf
 have c1:((E.map edI).length+([((f:Int),((l:Int),([0,0,0,0],true)))]:List EdI).length)*56<=140737488355328:=by simp;omega
 have c2:(E.map edI).length+([((f:Int),((l:Int),([0,0,0,0],true)))]:List EdI).length<=9223372036854775807:=by simp;omega
 simp only
 rw[if_pos c1,if_pos c2,dQ]
 rfl
theorem rh{st0 ch:List (Int×Int)}(hl:(st0++ch).length<=100000){k:Int}(hk:k=((ch.length:Nat):Int))(X:Int×Int):
 IntKind.wrap .i64 ((((st0++ch).length:Nat):Int)-k)=((st0.length:Nat):Int)/\((0:Int)<=0/\(0:Int)<=((st0.length:Nat):Int)/\((st0.length:Nat):Int)<=(((st0++ch).length:Nat):Int))/\bZ (st0++ch) 0 ((st0.length:Nat):Int)=st0/\(st0.length+([X]:List (Int×Int)).length)*16<=140737488355328/\st0.length+([X]:List (Int×Int)).length<=9223372036854775807:=by
 rw[al]at hl
 subst hk
 refine⟨?_,⟨by omega,by omega,by rw[al];omega⟩,?_,by rw[gl];omega,by rw[gl];omega⟩
 ·have:((((st0++ch).length:Nat):Int)-((ch.length:Nat):Int))=((st0.length:Nat):Int):=by rw[al];omega
  rw[this];exact bo (by omega)
 ·have:=nK ([]:List (Int×Int)) st0 ch
  rw[bJ,eX,dF]at this
  exact this
theorem DO{n:Nat}(hn:n<=100000){E:List Ed}(hE:E.length<=10000)(S:List Int){st:List (Int×Int)}(hst:st.length<=100000):
 nx N0 (nf n E,((1,S),(st,())))=some ((st++[((n:Int),((n+1:Nat):Int))],()),(nf (n+2) (E++[(n,n+1,S,false)]),())):=by
 unfold nx
 simp only[nM hn,bL]
 refine aQ ((nf (n+2) (E++[(n,n+1,S,false)]),(st,())),()) (λK=>?_) ?_
 ·simp only[bA,show decide ((1:Int)=0)=false from rfl,show decide ((1:Int)=1)=true from rfl,decide_true,cond_false,cond_true]
  unfold nf
  have c1:((E.map edI).length+([((n:Int),(((n+1:Nat):Int),(S,false)))]:List EdI).length)*56<=140737488355328:=by simp;omega
  have c2:(E.map edI).length+([((n:Int),(((n+1:Nat):Int),(S,false)))]:List EdI).length<=9223372036854775807:=by simp;omega
  simp only
  rw[if_pos c1,if_pos c2,dQ]
  rfl
 ·obtain⟨h1,h2,h3,h4,h5⟩:=rh (st0:=st) (ch:=[]) (by rw[cQ];exact hst) (k:=0) rfl ((n:Int),((n+1:Nat):Int))
  rw[cQ]at h1 h2 h3
  simp only
  rw[aa (gE (k:=1) (by decide))]
  have e:bY 1=0:=rfl
  simp only[e,h1]
  rw[if_pos h2,h3,if_pos h4,if_pos h5]
theorem DP{n:Nat}(hn:n<=100000){E:List Ed}(hE:E.length<=10000){st:List (Int×Int)}(hst:st.length<=100000):
 nx N0 (nf n E,((0,zS),(st,())))=some ((st++[((n:Int),((n+1:Nat):Int))],()),(nf (n+2) (E++[fE n (n+1)]),())):=by
 unfold nx
 simp only[nM hn,bL]
 refine aQ ((nf (n+2) (E++[fE n (n+1)]),(st,())),()) (λK=>?_) ?_
 ·rw[decide_true,cond_true,aa (eK (by omega) _ _ _)]
 ·obtain⟨h1,h2,h3,h4,h5⟩:=rh (st0:=st) (ch:=[]) (by rw[cQ];exact hst) (k:=0) rfl ((n:Int),((n+1:Nat):Int))
  rw[cQ]at h1 h2 h3
  simp only
  rw[aa (gE (k:=0) (by decide))]
  have e:bY 0=0:=rfl
  simp only[e,h1]
  rw[if_pos h2,h3,if_pos h4,if_pos h5]
theorem wD{st0:List (Int×Int)}{a b:Int×Int}(h:st0.length<=100000):IntKind.wrap .i64 ((((st0++[a,b]).length:Nat):Int)-2)=((st0.length:Nat):Int)/\IntKind.wrap .i64 ((((st0++[a,b]).length:Nat):Int)-1)=((st0.length+1:Nat):Int)/\(st0++[a,b])[st0.length]?=some a/\(st0++[a,b])[st0.length+1]?=some b:=by
 have hl:(st0++[a,b]).length=st0.length+2:=by rw[al];rfl
 refine⟨?_,?_,by simp,by simp⟩
 ·have:((((st0++[a,b]).length:Nat):Int)-2)=((st0.length:Nat):Int):=by omega
  rw[this];exact bo (by omega)
 ·have:((((st0++[a,b]).length:Nat):Int)-1)=((st0.length+1:Nat):Int):=by omega
  rw[this];exact bo (by omega)
theorem DR{n:Nat}(hn:n<=100000){E:List Ed}(hE:E.length<=10000){st0:List (Int×Int)}(hst:st0.length<=90000)(f1 l1 f2 l2:Nat):
 nx N0 (nf n E,((2,zS),(st0++[((f1:Int),(l1:Int)),((f2:Int),(l2:Int))],())))=some ((st0++[((n:Int),((n+1:Nat):Int))],()),(nf (n+2) (E++[fE n f1,fE l1 f2,fE l2 (n+1)]),())):=by
 obtain⟨g1,g2,g3,g4⟩:=wD (st0:=st0) (a:=((f1:Int),(l1:Int))) (b:=((f2:Int),(l2:Int))) (by omega)
 unfold nx
 simp only[nM hn,bL]
 refine aQ ((nf (n+2) (E++[fE n f1,fE l1 f2,fE l2 (n+1)]),(st0++[((f1:Int),(l1:Int)),((f2:Int),(l2:Int))],())),()) (λK=>?_) ?_
 ·have n0:(0:Int)<=((st0.length:Nat):Int):=by omega
  have n1:(0:Int)<=((st0.length+1:Nat):Int):=by omega
  simp only[bA,show decide ((2:Int)=0)=false from rfl,show decide ((2:Int)=1)=false from rfl,decide_true,cond_false,cond_true,g1,g2]
  rw[if_pos n0,af,g3]
  simp only
  rw[if_pos n1,af,g4]
  simp only
  rw[aa (eK (by omega) _ _ _)]
  simp only
  rw[aa (eK (by simp;omega) _ _ _)]
  simp only
  rw[aa (eK (by simp;omega) _ _ _)]
  simp only[aT,dP,bJ]
 ·obtain⟨h1,h2,h3,h4,h5⟩:=rh (st0:=st0) (ch:=[((f1:Int),(l1:Int)),((f2:Int),(l2:Int))]) (by rw[al];show st0.length+2<=_;omega) (k:=2) rfl ((n:Int),((n+1:Nat):Int))
  simp only
  rw[aa (gE (k:=2) (by decide))]
  have e:bY 2=2:=rfl
  simp only[e,h1]
  rw[if_pos h2,h3,if_pos h4,if_pos h5]
theorem DS{n:Nat}(hn:n<=100000){E:List Ed}(hE:E.length<=10000){st0:List (Int×Int)}(hst:st0.length<=90000)(f1 l1 f2 l2:Nat):
 nx N0 (nf n E,((3,zS),(st0++[((f1:Int),(l1:Int)),((f2:Int),(l2:Int))],())))=some ((st0++[((n:Int),((n+1:Nat):Int))],()),(nf (n+2) (E++[fE n f1,fE l1 (n+1),fE n f2,fE l2 (n+1)]),())):=by
 obtain⟨g1,g2,g3,g4⟩:=wD (st0:=st0) (a:=((f1:Int),(l1:Int))) (b:=((f2:Int),(l2:Int))) (by omega)
 have hl:(st0++[((f1:Int),(l1:Int)),((f2:Int),(l2:Int))]).length=st0.length+2:=by rw[al];rfl
 unfold nx
 simp only[nM hn,bL]
 refine aQ ((nf (n+2) (E++[fE n f1,fE l1 (n+1),fE n f2,fE l2 (n+1)]),(st0++[((f1:Int),(l1:Int)),((f2:Int),(l2:Int))],())),()) (λK=>?_) ?_
 ·simp only[bA,show decide ((3:Int)=0)=false from rfl,show decide ((3:Int)=1)=false from rfl,show decide ((3:Int)=2)=false from rfl,decide_true,cond_false,cond_true,g1]
  rw[if_pos ⟨by omega,by omega,by omega⟩]
  refine ba (λm x q=>((m=2/\x=((nf (n+2) E,(st0++[((f1:Int),(l1:Int)),((f2:Int),(l2:Int))],())),((0:Int),())))\/(m=1/\x=((nf (n+2) (E++[fE n f1,fE l1 (n+1)]),(st0++[((f1:Int),(l1:Int)),((f2:Int),(l2:Int))],())),((1:Int),())))\/(m=0/\x=((nf (n+2) (E++[fE n f1,fE l1 (n+1),fE n f2,fE l2 (n+1)]),(st0++[((f1:Int),(l1:Int)),((f2:Int),(l2:Int))],())),((2:Int),()))))/\q=K ((nf (n+2) (E++[fE n f1,fE l1 (n+1),fE n f2,fE l2 (n+1)]),(st0++[((f1:Int),(l1:Int)),((f2:Int),(l2:Int))],())),())) ?_ N0 2 _ _ (by unfold N0;omega) ⟨.inl ⟨rfl,rfl⟩,rfl⟩
  have evL:pp ((st0.length:Nat):Int) (((st0++[((f1:Int),(l1:Int)),((f2:Int),(l2:Int))]).length:Nat):Int)=2:=by unfold pp;omega
  rintro m x q ⟨hx,rfl⟩ k hk
  rcases hx with⟨rfl,rfl⟩|⟨rfl,rfl⟩|⟨rfl,rfl⟩
  ·have e1:uP 0 ((st0.length:Nat):Int) (((st0++[((f1:Int),(l1:Int)),((f2:Int),(l2:Int))]).length:Nat):Int)=true:=by unfold uP;simp;omega
   have e2:kH ((st0.length:Nat):Int) 0=((st0.length:Nat):Int):=by unfold kH;simp
   have n0:(0:Int)<=((st0.length:Nat):Int):=by omega
   have w1:IntKind.wrap .i64 ((0:Int)+1)=1:=bI (by omega) (by omega)
   simp only[evL,e1,e2,show decide ((0:Int)<2)=true from rfl,cond_true]
   rw[if_pos n0,af,g3]
   simp only
   rw[aa (eK (by omega) _ _ _)]
   simp only
   rw[aa (eK (by simp;omega) _ _ _),w1,aT]
   exact hk 1 _ _ (by omega) ⟨.inr (.inl ⟨rfl,rfl⟩),rfl⟩
  ·have e1:uP 1 ((st0.length:Nat):Int) (((st0++[((f1:Int),(l1:Int)),((f2:Int),(l2:Int))]).length:Nat):Int)=true:=by unfold uP;simp;omega
   have e2:kH ((st0.length:Nat):Int) 1=((st0.length+1:Nat):Int):=by unfold kH;simp
   have n0:(0:Int)<=((st0.length+1:Nat):Int):=by omega
   have w1:IntKind.wrap .i64 ((1:Int)+1)=2:=bI (by omega) (by omega)
   simp only[evL,e1,e2,show decide ((1:Int)<2)=true from rfl,cond_true]
   rw[if_pos n0,af,g4]
   simp only
   rw[aa (eK (by simp;omega) _ _ _)]
   simp only
   rw[aa (eK (by simp;omega) _ _ _),w1]
   simp only[aT,dP,bJ]
   exact hk 0 _ _ (by omega) ⟨.inr (.inr ⟨rfl,rfl⟩),rfl⟩
  ·simp only[evL,show decide ((2:Int)<2)=false from rfl,cond_false]
 ·obtain⟨h1,h2,h3,h4,h5⟩:=rh (st0:=st0) (ch:=[((f1:Int),(l1:Int)),((f2:Int),(l2:Int))]) (by rw[al];show st0.length+2<=_;omega) (k:=2) rfl ((n:Int),((n+1:Nat):Int))
  simp only
  rw[aa (gE (k:=3) (by decide))]
  have e:bY 3=2:=rfl
  simp only[e,h1]
  rw[if_pos h2,h3,if_pos h4,if_pos h5]
theorem DT{n:Nat}(hn:n<=100000){E:List Ed}(hE:E.length<=10000){st0:List (Int×Int)}(hst:st0.length<=90000){k:Int}(hk:k=4\/k=5\/k=6)(f1 l1:Nat):
 nx N0 (nf n E,((k,zS),(st0++[((f1:Int),(l1:Int))],())))=some ((st0++[((n:Int),((n+1:Nat):Int))],()),(nf (n+2) (E++([fE n f1,fE l1 (n+1)]++(if k=6 then []else [fE l1 f1])++(if k=5 then []else [fE n (n+1)]))),())):=by
 have hl:(st0++[((f1:Int),(l1:Int))]).length=st0.length+1:=by rw[al];rfl
 have g1:IntKind.wrap .i64 ((((st0++[((f1:Int),(l1:Int))]).length:Nat):Int)-1)=((st0.length:Nat):Int):=by
  have:((((st0++[((f1:Int),(l1:Int))]).length:Nat):Int)-1)=((st0.length:Nat):Int):=by omega
  rw[this];exact bo (by omega)
 have g2:(st0++[((f1:Int),(l1:Int))])[st0.length]?=some ((f1:Int),(l1:Int)):=by simp
 have n0:(0:Int)<=((st0.length:Nat):Int):=by omega
 unfold nx
 simp only[nM hn,bL]
 refine aQ ((nf (n+2) (E++([fE n f1,fE l1 (n+1)]++(if k=6 then []else [fE l1 f1])++(if k=5 then []else [fE n (n+1)]))),(st0++[((f1:Int),(l1:Int))],())),()) (λK=>?_) ?_
 ·have q0:decide (k=0)=false:=decide_eq_false (by omega)
  have q1:decide (k=1)=false:=decide_eq_false (by omega)
  have q2:decide (k=2)=false:=decide_eq_false (by omega)
  have q3:decide (k=3)=false:=decide_eq_false (by omega)
  simp only[bA,q0,q1,q2,q3,cond_false,g1]
  rw[if_pos n0,af,g2]
  simp only
  rw[aa (eK (by omega) _ _ _)]
  simp only
  rw[aa (eK (by simp;omega) _ _ _)]
  simp only
  rcases hk with rfl|rfl|rfl
  ·simp only[show decide ((4:Int)=6)=false from rfl,show decide ((4:Int)=5)=false from rfl,aG,cond_true]
   rw[aa (eK (by simp;omega) _ _ _)]
   simp only
   rw[aa (eK (by simp;omega) _ _ _)]
   simp
  ·simp only[show decide ((5:Int)=6)=false from rfl,decide_true,aG,az,cond_true,cond_false]
   rw[aa (eK (by simp;omega) _ _ _)]
   simp
  ·simp only[show decide ((6:Int)=5)=false from rfl,decide_true,aG,az,cond_true,cond_false]
   rw[aa (eK (by simp;omega) _ _ _)]
   simp
 ·obtain⟨h1,h2,h3,h4,h5⟩:=rh (st0:=st0) (ch:=[((f1:Int),(l1:Int))]) (by omega) (k:=1) rfl ((n:Int),((n+1:Nat):Int))
  simp only
  have e:bY k=1:=by rcases hk with rfl|rfl|rfl <;> rfl
  rw[aa (gE (k:=k) (by omega))]
  simp only[e,h1]
  rw[if_pos h2,h3,if_pos h4,if_pos h5]
end
noncomputable section
theorem gF:∀ (t:Rx) (n:Nat),(t.ap n).length<=4*t.len:=by
 intro t
 induction t with
 |eps=>intro n;simp[Rx.ap,Rx.len]
 |set S=>intro n;simp[Rx.ap,Rx.len]
 |cat a b iha ihb=>
  intro n
  have h1:=iha n
  have h2:=ihb (n+2*a.len)
  simp only[Rx.ap,Rx.len,al,bU,eX]
  omega
 |alt a b iha ihb=>
  intro n
  have h1:=iha n
  have h2:=ihb (n+2*a.len)
  simp only[Rx.ap,Rx.len,al,bU,eX]
  omega
 |rep k a ih=>
  intro n
  have h1:=ih n
  simp only[Rx.ap,Rx.len,al,bU,eX]
  split <;> split <;> simp <;> omega
abbrev OfS:=(NfI×(NfI×Unit))×(List (Int×Int)×(Int×Unit))
abbrev OfR:=(NfI×(Int×Unit))×Unit
def stB(r:List Pc):OfS->(OfS->Option OfR)->Option OfR:=λv4 v5=>
 (bif decide (v4.2.2.1<((r.length:Nat):Int))then(if 0<=v4.2.2.1 then(match r[(v4.2.2.1).toNat]? with|some v6=>(ah (nx N0 (v4.1.2.1,(v6,(v4.2.1,())))) λv7=>v5 ((v4.1.1,(v7.2.1,())),(v7.1.1,(IntKind.wrap .i64 (v4.2.2.1+1),()))))|none=>none)else none)
 else(if(0:Int)<=0 then(match v4.2.1[((0:Int)).toNat]? with|some v8=>(if(0:Int)<=0 then(match v4.2.1[((0:Int)).toNat]? with|some v9=>some (((v4.1.2.1.1,(v4.1.2.1.2.1,(v8.1,v9.2))),(0,())),())|none=>none)else none)|none=>none)else none))
def pr(f l:Nat):Int×Int:=((f:Int),(l:Int))
theorem nN{r:List Pc}(hr:r.length<=100000)(F i:Nat)(p:Pc)(hp:r[i]?=some p){Z M M':NfI}{st st':List (Int×Int)}(h:nx N0 (M,(p,(st,())))=some ((st',()),(M',()))):
 aA (stB r) (F+1) ((Z,(M,())),(st,((i:Int),())))=aA (stB r) F ((Z,(M',())),(st',(((i+1:Nat):Int),()))):=by
 have hi:i<r.length:=by
  rcases av i r.length with h|h
  ·exact h
  ·rw[br h]at hp;cases hp
 rw[ew]
 unfold stB
 simp only
 have n0:(0:Int)<=(i:Int):=by omega
 rw[decide_eq_true (show(i:Int)<((r.length:Nat):Int) by omega),cond_true,if_pos n0,af,hp]
 simp only
 rw[aa h]
 simp only[cE (show i+1<9223372036854775808 by omega)]
theorem GI{r:List Pc}(hr:r.length<=100000){Z:NfI}:∀ (t:Rx) (F n:Nat) (E:List Ed) (st:List (Int×Int)) (l rest:List Pc),t.ok->r=l++t.post++rest->n+2*t.len<=100000->E.length+4*t.len<=10000->st.length+t.len<=90000->
 aA (stB r) (F+t.len) ((Z,(nf n E,())),(st,((l.length:Int),())))=aA (stB r) F ((Z,(nf (n+2*t.len) (E++t.ap n),())),(st++[pr (t.fst n) (t.lst n)],(((l.length+t.len:Nat):Int),()))):=by
 intro t
 induction t with
 |eps=>
  intro F n E st l rest _ hr2 hn hE hst
  simp only[Rx.len]at hn hE hst |-
  have hp:r[l.length]?=some (0,zS):=by rw[hr2];simp[Rx.post]
  rw[nN hr F l.length _ hp (DP (by omega) (by omega) (by omega))]
  have e1:Rx.fst .eps n=n:=by simp only[Rx.fst,Rx.len];omega
  have e2:Rx.lst .eps n=n+1:=by simp only[Rx.lst,Rx.len];omega
  rw[e1,e2]
  rfl
 |set S=>
  intro F n E st l rest _ hr2 hn hE hst
  simp only[Rx.len]at hn hE hst |-
  have hp:r[l.length]?=some (1,S):=by rw[hr2];simp[Rx.post]
  rw[nN hr F l.length _ hp (DO (by omega) (by omega) S (by omega))]
  have e1:Rx.fst (.set S) n=n:=by simp only[Rx.fst,Rx.len];omega
  have e2:Rx.lst (.set S) n=n+1:=by simp only[Rx.lst,Rx.len];omega
  rw[e1,e2]
  rfl
 |cat a b iha ihb=>
  intro F n E st l rest hok hr2 hn hE hst
  simp only[Rx.len]at hn hE hst |-
  have pa:=a.bu
  have pb:=b.bu
  have la:=gF a n
  have lb:=gF b (n+2*a.len)
  have hp:r[l.length+a.len+b.len]?=some (2,zS):=by
   rw[hr2]
   simp[Rx.post,<-a.aN,<-b.aN,bV]
  rw[show F+(a.len+b.len+1)=(F+1+b.len)+a.len by omega,iha (F+1+b.len) n E st l (b.post++[(2,zS)]++rest) hok.1 (by rw[hr2];simp[Rx.post]) (by omega) (by omega) (by omega)]
  have hb:=ihb (F+1) (n+2*a.len) (E++a.ap n) (st++[pr (a.fst n) (a.lst n)]) (l++a.post) ([(2,zS)]++rest) hok.2 (by rw[hr2];simp[Rx.post]) (by omega) (by rw[al];omega) (by rw[al,gl];omega)
  rw[al,a.aN]at hb
  have e0:st++[pr (a.fst n) (a.lst n)]++[pr (b.fst (n+2*a.len)) (b.lst (n+2*a.len))]=st++[(((a.fst n:Nat):Int),((a.lst n:Nat):Int)),(((b.fst (n+2*a.len):Nat):Int),((b.lst (n+2*a.len):Nat):Int))]:=by
   rw[aT];rfl
  rw[e0]at hb
  rw[hb,nN hr F _ _ hp (DR (by omega) (by rw[al,al];omega) (by omega) _ _ _ _)]
  have e1:(Rx.cat a b).fst n=n+2*a.len+2*b.len:=by simp only[Rx.fst,Rx.len];omega
  have e2:(Rx.cat a b).lst n=n+2*a.len+2*b.len+1:=by simp only[Rx.lst,Rx.len];omega
  have e3:E++a.ap n++b.ap (n+2*a.len)++[fE (n+2*a.len+2*b.len) (a.fst n),fE (a.lst n) (b.fst (n+2*a.len)),fE (b.lst (n+2*a.len)) (n+2*a.len+2*b.len+1)]=E++(Rx.cat a b).ap n:=by
   simp only[Rx.ap,aT]
   rw[show n+2*(a.len+b.len)=n+2*a.len+2*b.len by omega]
  rw[e1,e2,e3,show n+2*a.len+2*b.len+2=n+2*(a.len+b.len+1) by omega,show l.length+a.len+b.len+1=l.length+(a.len+b.len+1) by omega]
  rfl
 |alt a b iha ihb=>
  intro F n E st l rest hok hr2 hn hE hst
  simp only[Rx.len]at hn hE hst |-
  have pa:=a.bu
  have pb:=b.bu
  have la:=gF a n
  have lb:=gF b (n+2*a.len)
  have hp:r[l.length+a.len+b.len]?=some (3,zS):=by
   rw[hr2]
   simp[Rx.post,<-a.aN,<-b.aN,bV]
  rw[show F+(a.len+b.len+1)=(F+1+b.len)+a.len by omega,iha (F+1+b.len) n E st l (b.post++[(3,zS)]++rest) hok.1 (by rw[hr2];simp[Rx.post]) (by omega) (by omega) (by omega)]
  have hb:=ihb (F+1) (n+2*a.len) (E++a.ap n) (st++[pr (a.fst n) (a.lst n)]) (l++a.post) ([(3,zS)]++rest) hok.2 (by rw[hr2];simp[Rx.post]) (by omega) (by rw[al];omega) (by rw[al,gl];omega)
  rw[al,a.aN]at hb
  have e0:st++[pr (a.fst n) (a.lst n)]++[pr (b.fst (n+2*a.len)) (b.lst (n+2*a.len))]=st++[(((a.fst n:Nat):Int),((a.lst n:Nat):Int)),(((b.fst (n+2*a.len):Nat):Int),((b.lst (n+2*a.len):Nat):Int))]:=by
   rw[aT];rfl
  rw[e0]at hb
  rw[hb,nN hr F _ _ hp (DS (by omega) (by rw[al,al];omega) (by omega) _ _ _ _)]
  have e1:(Rx.alt a b).fst n=n+2*a.len+2*b.len:=by simp only[Rx.fst,Rx.len];omega
  have e2:(Rx.alt a b).lst n=n+2*a.len+2*b.len+1:=by simp only[Rx.lst,Rx.len];omega
  have e3:E++a.ap n++b.ap (n+2*a.len)++[fE (n+2*a.len+2*b.len) (a.fst n),fE (a.lst n) (n+2*a.len+2*b.len+1),fE (n+2*a.len+2*b.len) (b.fst (n+2*a.len)),fE (b.lst (n+2*a.len)) (n+2*a.len+2*b.len+1)]=E++(Rx.alt a b).ap n:=by
   simp only[Rx.ap,aT]
   rw[show n+2*(a.len+b.len)=n+2*a.len+2*b.len by omega]
  rw[e1,e2,e3,show n+2*a.len+2*b.len+2=n+2*(a.len+b.len+1) by omega,show l.length+a.len+b.len+1=l.length+(a.len+b.len+1) by omega]
  rfl
 |rep k a iha=>
  intro F n E st l rest hok hr2 hn hE hst
  simp only[Rx.len]at hn hE hst |-
  have la:=gF a n
  have hp:r[l.length+a.len]?=some (k,zS):=by
   rw[hr2]
   simp[Rx.post,<-a.aN]
  rw[show F+(a.len+1)=(F+1)+a.len by omega,iha (F+1) n E st l ([(k,zS)]++rest) hok.2 (by rw[hr2];simp[Rx.post]) (by omega) (by omega) (by omega),show st++[pr (a.fst n) (a.lst n)]=st++[(((a.fst n:Nat):Int),((a.lst n:Nat):Int))]from rfl,
   nN hr F _ _ hp (DT (by omega) (by rw[al];omega) (by omega) hok.1 _ _)]
  have e1:(Rx.rep k a).fst n=n+2*a.len:=by simp only[Rx.fst,Rx.len];omega
  have e2:(Rx.rep k a).lst n=n+2*a.len+1:=by simp only[Rx.lst,Rx.len];omega
  have e3:E++a.ap n++([fE (n+2*a.len) (a.fst n),fE (a.lst n) (n+2*a.len+1)]++(if k=6 then []else [fE (a.lst n) (a.fst n)])++(if k=5 then []else [fE (n+2*a.len) (n+2*a.len+1)]))=E++(Rx.rep k a).ap n:=by
   simp only[Rx.ap,aT]
  rw[e1,e2,e3,show n+2*a.len+2=n+2*(a.len+1) by omega,show l.length+a.len+1=l.length+(a.len+1) by omega]
  rfl
def nfT(t:Rx):NfI:=(((2*t.len:Nat):Int),((t.ap 0).map edI,(((t.fst 0:Nat):Int),((t.lst 0:Nat):Int))))
theorem Jb{t:Rx}(hok:t.ok)(hl:t.len<=400):p61 N0 (t.post,())=some ((nfT t,(0,())),()):=by
 have tl:=t.aN
 have h:=GI (r:=t.post) (by omega) (Z:=nf 0 []) t (N0-t.len) 0 [] [] [] [] hok (by simp) (by omega) (by simp;omega) (by simp;omega)
 rw[show N0-t.len+t.len=N0 by unfold N0;omega]at h
 unfold p61
 simp only
 rw[aa (GH hok hl)]
 simp only
 rw[decide_true,az,cond_false]
 refine Eq.trans h ?_
 obtain⟨q,hq⟩:∃ q,N0-t.len=q+1:=⟨N0-t.len-1,by unfold N0;omega⟩
 rw[hq,ew]
 unfold stB
 simp only
 have e:((([]:List Pc).length+t.len:Nat):Int)=((t.post.length:Nat):Int):=by rw[tl];simp
 rw[e,decide_eq_false (show ¬((t.post.length:Nat):Int)<((t.post.length:Nat):Int) by omega),cond_false,if_pos z0,bJ,wA]
 simp only
 rw[if_pos z0,bJ,dF]
 rfl
end
noncomputable section
def bsN(n:Nat)(f:Nat->Bool):List Bool:=(List.range n).map f
theorem fY(n:Nat)(f:Nat->Bool):(bsN n f).length=n:=by simp[bsN]
theorem fZ{n:Nat}(f:Nat->Bool){i:Nat}(h:i<n):(bsN n f)[i]?=some (f i):=by
 unfold bsN
 rw[cn,gn h]
 rfl
theorem uc{n:Nat}(f:Nat->Bool){i:Nat}(h:i<n):(bsN n f).set i true=bsN n (λx=>f x||decide (x=i)):=by
 apply dO
 intro j
 rw[jx]
 by_cases hj:j<n
 ·have g1:=fZ (n:=n) (λx=>f x||decide (x=i)) hj
  have g2:=fZ (n:=n) f hj
  rw[g1,g2]
  by_cases e:i=j
  ·subst e
   rw[if_pos rfl,if_pos (by rw[fY];exact h)]
   simp
  ·rw[if_neg e]
   have:¬j=i:=λh=>e h.symm
   simp[this]
 ·have e1:(bsN n λx=>f x||decide (x=i))[j]?=none:=br (by rw[fY];omega)
  have e2:(bsN n f)[j]?=none:=br (by rw[fY];omega)
  rw[e1,e2,if_neg (by omega)]
def cnt(f:Nat->Bool):Nat->Nat
 |0=>0
 |n+1=>(if f n then 0 else 1)+cnt f n
theorem cnt_mono{f g:Nat->Bool}:∀ n,(∀ i,i<n->f i=true->g i=true)->cnt g n<=cnt f n:=by
 intro n
 induction n with
 |zero=>intro _;exact ar _
 |succ n ih=>
  intro h
  have h1:=ih λi hi=>h i (by omega)
  have h2:=h n (by omega)
  simp only[cnt]
  cases hf:f n
  ·cases hg:g n <;> simp <;> omega
  ·rw[h2 hf];simp;exact h1
theorem cnt_lt{f g:Nat->Bool}{q:Nat}:∀ n,(∀ i,i<n->f i=true->g i=true)->q<n->f q=false->g q=true->cnt g n<cnt f n:=by
 intro n
 induction n with
 |zero=>intro _ h;omega
 |succ n ih=>
  intro h hq hf hg
  simp only[cnt]
  by_cases e:q=n
  ·subst e
   have h1:=cnt_mono q λi hi=>h i (by omega)
   rw[hf,hg]
   simp
   omega
  ·have h1:=ih (λi hi=>h i (by omega)) (by omega) hf hg
   have h2:=h n (by omega)
   cases hf2:f n
   ·cases hg2:g n <;> simp <;> omega
   ·rw[h2 hf2];simp;exact h1
def ky(E:List Ed)(f:Nat->Bool):Prop:=∀ e∈E,e.2.2.2=true->f e.1=true->f e.2.1=true
def InE(n:Nat)(E:List Ed):Prop:=∀ e∈E,e.1<n/\e.2.1<n
def leB(f g:Nat->Bool):Prop:=∀ i,f i=true->g i=true
def fO(E:List Ed)(f g:Nat->Bool):Prop:=leB f g/\ky E g/\∀ D,ky E D->leB f D->leB g D
theorem yT{n:Nat}(hn:n<=100000){E:List Ed}(hE:E.length<=100000)(hin:InE n E)(X:Int×Int)(f0:Nat->Bool):
 ∃ g,C2 N0 (((n:Int),(E.map edI,X)),(bsN n f0,()))=some ((bsN n g,()),())/\fO E f0 g:=by
 unfold C2
 simp only
 have hcp:cpL (List.replicate ((n:Int)).toNat false) (bsN n f0)=bsN n f0:=by
  unfold cpL
  simp[fY]
  exact dC (by rw[fY];exact ar _)
 rw[if_pos (show(0:Int)<=(n:Int)/\(n:Int)<=(n:Int) by omega),if_pos (show((n:Int)).toNat*1<=140737488355328 by rw[af];omega),hcp]
 refine dz (λm x=>∃ (f:Nat->Bool) (c:Bool),x=((bsN n f,()),(c,()))/\leB f0 f/\(∀ D,ky E D->leB f0 D->leB f D)/\(c=false->ky E f)/\m=cnt f n+(if c=true then 1 else 0)) (λz=>∃ g,z=some ((bsN n g,()),())/\fO E f0 g) ?_ N0 (cnt f0 n+1) _ ?_ ⟨f0,true,rfl,λi h=>h,λD _ h=>h,(λh=>by cases h),rfl⟩
 ·rintro m x ⟨f,c,rfl,h1,h2,h3,hm⟩ k hk
  simp only
  cases c
  ·rw[cond_false]
   exact⟨f,rfl,h1,h3 rfl,h2⟩
  ·rw[cond_true]
   simp only[if_true]at hm
   refine dz (λm2 x=>∃ (j:Nat) (g:Nat->Bool) (c:Bool),x=((bsN n g,()),(c,((j:Int),())))/\m2+j=E.length/\leB f g/\(∀ D,ky E D->leB f0 D->leB g D)/\(c=false->g=f/\∀ (i:Nat) e,i<j->E[i]?=some e->e.2.2.2=true->f e.1=true->f e.2.1=true)/\(c=true->cnt g n<cnt f n)) (λz=>∃ g,z=some ((bsN n g,()),())/\fO E f0 g) ?_ N0 E.length _ (by unfold N0;omega) ⟨0,f,false,rfl,rfl,λi h=>h,h2,λ_=>⟨rfl,λi e hi=>by omega⟩,(λh=>by cases h)⟩
   rintro m2 x ⟨j,g,c,rfl,hmj,q1,q2,q3,q4⟩ k2 hk2
   simp only
   rcases av j E.length with hj|hj
   ·have n0:(0:Int)<=(j:Int):=by omega
    have hj2:(E.map edI)[j]?=some (edI E[j]):=by rw[cn,au hj];rfl
    have mg:E[j]∈E:=bO hj
    obtain⟨r1,r2⟩:=hin _ mg
    have eg:E[j]?=some E[j]:=au hj
    generalize E[j]=e at hj2 mg r1 r2 eg
    rw[decide_eq_true (show(j:Int)<(((E.map edI).length:Nat):Int) by rw[bG];omega),cond_true,if_pos n0,af,hj2]
    have n1:(0:Int)<=(e.1:Int):=by omega
    have n2:(0:Int)<=(e.2.1:Int):=by omega
    have w1:IntKind.wrap .i64 ((j:Int)+1)=((j+1:Nat):Int):=cE (by omega)
    simp only[edI,w1]
    refine dw (P:=λz=>∃ g,z=some ((bsN n g,()),())/\fO E f0 g) ((bsN n g,()),(e.2.2.2&&(g e.1&&!g e.2.1),())) (λK=>?_) ?_
    ·cases e.2.2.2
     ·rfl
     ·rw[cond_true,if_pos n1,af,fZ g r1]
      simp only
      cases g e.1
      ·rfl
      ·rw[cond_true,if_pos n2,af,fZ g r2]
       rfl
    ·simp only
     refine dw (P:=λz=>∃ g,z=some ((bsN n g,()),())/\fO E f0 g) ((bsN n (λx=>g x||(decide (x=e.2.1)&&(e.2.2.2&&(g e.1&&!g e.2.1)))),()),((c||(e.2.2.2&&(g e.1&&!g e.2.1))),())) (λK=>?_) ?_
     ·cases hb:(e.2.2.2&&(g e.1&&!g e.2.1))
      ·rw[cond_false]
       simp
      ·rw[cond_true,if_pos n2,af,fZ g r2]
       simp only
       rw[if_pos n2]
       rw[uc g r2]
       simp
     ·simp only
      refine hk2 (m2-1) _ (by omega) ⟨j+1,_,_,rfl,by omega,?_,?_,?_,?_⟩
      ·intro i hi
       show(g i||_)=true
       rw[q1 i hi];rfl
      ·intro D hD1 hD2 i hi
       rw[aR,ag,decide_eq_true_eq,ag,ag]at hi
       rcases hi with hi|⟨rfl,h4,h5,_⟩
       ·exact q2 D hD1 hD2 i hi
       ·exact hD1 e mg h4 (q2 D hD1 hD2 _ h5)
      ·intro hc
       rw[eS]at hc
       obtain⟨hc1,hc2⟩:=hc
       obtain⟨rfl,q6⟩:=q3 hc1
       refine⟨?_,?_⟩
       ·funext x
        rw[hc2];simp
       ·intro i e2 hi he2 yU hp
        by_cases hij:i=j
        ·subst hij
         rw[eg]at he2
         injection he2 with he2
         subst he2
         rw[yU,hp]at hc2
         simpa using hc2
        ·exact q6 i e2 (by omega) he2 yU hp
      ·intro hc
       cases hb:(e.2.2.2&&(g e.1&&!g e.2.1))
       ·rw[hb,iq]at hc
        refine lE (cnt_mono n λi _ h=>?_) (q4 hc)
        rw[h];rfl
       ·have hb2:=hb
        rw[ag,ag,bq]at hb2
        have hlt:cnt (λx=>g x||(decide (x=e.2.1)&&true)) n<cnt g n:=cnt_lt (q:=e.2.1) n (λi _ h=>by simp[h]) r2 hb2.2.2 (by simp)
        have:cnt g n<=cnt f n:=cnt_mono n λi _ h=>q1 i h
        omega
   ·rw[decide_eq_false (show ¬(j:Int)<(((E.map edI).length:Nat):Int) by rw[bG];omega),cond_false]
    refine hk (cnt g n+(if c=true then 1 else 0)) _ ?_ ⟨g,c,rfl,λi h=>q1 i (h1 i h),q2,?_,rfl⟩
    ·have:cnt g n<=cnt f n:=cnt_mono n λi _ h=>q1 i h
     cases c
     ·simp;omega
     ·have:=q4 rfl
      simp;omega
    ·intro hc
     obtain⟨rfl,q6⟩:=q3 hc
     intro e he yU hp
     obtain⟨i,hi,hie⟩:=List.getElem_of_mem he
     exact q6 i e (by omega) (by rw[au hi,hie]) yU hp
 ·have:∀ n,cnt f0 n<=n:=by
   intro n
   induction n with
   |zero=>exact ar _
   |succ n ih=>simp only[cnt];split <;> omega
  have:=this n
  unfold N0
  omega
end
noncomputable section
theorem sF(t:Rx):InE (2*t.len) (t.ap 0):=by
 intro e he
 obtain⟨h1,h2,h3,h4⟩:=t.dj 0 e he
 omega
theorem GJ{n:Nat}(hn:n<=100000){E:List Ed}(hE:E.length<=100000)(hin:InE n E){a b:Nat}(ha:a<n)(hb:b<n):
 AV N0 (((n:Int),(E.map edI,((a:Int),(b:Int)))),())=some ((true,()),()):=by
 unfold AV
 simp only
 refine aQ ((),(false,())) (λK=>?_) ?_
 ·rw[decide_eq_false (show ¬(a:Int)<0 by omega),cond_false,decide_eq_false (show ¬(n:Int)<=(a:Int) by omega),cond_false,decide_eq_false (show ¬(b:Int)<0 by omega),cond_false,decide_eq_false (show ¬(n:Int)<=(b:Int) by omega)]
 ·simp only
  rw[cond_false]
  refine ba (λm x q=>∃ j:Nat,x=((),((j:Int),()))/\m+j=E.length/\q=some ((true,()),())) ?_ N0 E.length _ _ (by unfold N0;omega) ⟨0,rfl,rfl,rfl⟩
  rintro m x q ⟨j,rfl,hm,rfl⟩ k hk
  simp only
  rcases av j E.length with hj|hj
  ·have n0:(0:Int)<=(j:Int):=by omega
   have hj2:(E.map edI)[j]?=some (edI E[j]):=by rw[cn,au hj];rfl
   obtain⟨r1,r2⟩:=hin _ (bO hj)
   generalize E[j]=e at hj2 r1 r2
   rw[decide_eq_true (show(j:Int)<(((E.map edI).length:Nat):Int) by rw[bG];omega),cond_true,if_pos n0,af,hj2]
   simp only
   refine aQ ((),(false,())) (λK=>?_) ?_
   ·rw[decide_eq_false (show ¬(e.1:Int)<0 by omega),cond_false,decide_eq_false (show ¬(n:Int)<=(e.1:Int) by omega),cond_false,decide_eq_false (show ¬(e.2.1:Int)<0 by omega),cond_false,decide_eq_false (show ¬(n:Int)<=(e.2.1:Int) by omega)]
   ·simp only
    rw[cond_false,cE (by omega)]
    exact hk (m-1) _ _ (by omega) ⟨j+1,rfl,by omega,rfl⟩
  ·rw[decide_eq_false (show ¬(j:Int)<(((E.map edI).length:Nat):Int) by rw[bG];omega),cond_false]
theorem wF{t:Rx}(hl:t.len<=400):AV N0 (nfT t,())=some ((true,()),()):=by
 have h1:=t.mM 0
 have h2:=t.jk 0
 have h3:=gF t 0
 exact GJ (n:=2*t.len) (by omega) (by omega) (sF t) (by omega) (by omega)
def ga(E:List Ed):List (List Int):=(E.filter λe=>!e.2.2.2).map λe=>e.2.2.1
theorem sG(E:List Ed):(ga E).length<=E.length:=by
 unfold ga
 rw[bG]
 exact List.length_filter_le _ _
theorem GL{n:Nat}{E:List Ed}(hE:E.length<=100000)(X:Int×Int):FP N0 (((n:Int),(E.map edI,X)),())=some ((ga E,()),()):=by
 unfold FP
 simp only
 refine ba (λm x q=>∃ j:Nat,x=((),(ga (E.take j),((j:Int),())))/\m+j=E.length/\q=some ((ga E,()),())) ?_ N0 E.length _ _ (by unfold N0;omega) ⟨0,rfl,rfl,rfl⟩
 rintro m x q ⟨j,rfl,hm,rfl⟩ k hk
 simp only
 rcases av j E.length with hj|hj
 ·have n0:(0:Int)<=(j:Int):=by omega
  have hj2:(E.map edI)[j]?=some (edI E[j]):=by rw[cn,au hj];rfl
  have htk:E.take (j+1)=E.take j++[E[j]]:=by rw[il,au hj];rfl
  have hse:ga (E.take (j+1))=ga (E.take j)++ga [E[j]]:=by
   rw[htk];unfold ga;rw[List.filter_append,dQ]
  have hlen:(ga (E.take j)).length<=j:=bn (sG _) (by rw[aK];omega)
  generalize E[j]=e at hj2 hse
  rw[decide_eq_true (show(j:Int)<(((E.map edI).length:Nat):Int) by rw[bG];omega),cond_true,if_pos n0,af,hj2]
  simp only
  refine aQ ((),(ga (E.take (j+1)),())) (λK=>?_) ?_
  ·rw[hse]
   cases hb:e.2.2.2
   ·have es:ga [e]=[e.2.2.1]:=by unfold ga;simp[hb]
    have c1:((ga (E.take j)).length+([e.2.2.1]:List (List Int)).length)*32<=140737488355328:=by simp;omega
    have c2:(ga (E.take j)).length+([e.2.2.1]:List (List Int)).length<=9223372036854775807:=by simp;omega
    rw[aG,cond_true,if_pos c1,if_pos c2,es]
   ·have es:ga [e]=[]:=by unfold ga;simp[hb]
    rw[az,cond_false,es,cQ]
  ·simp only
   rw[cE (by omega)]
   exact hk (m-1) _ _ (by omega) ⟨j+1,rfl,by omega,rfl⟩
 ·have hj2:j=E.length:=by omega
  rw[decide_eq_false (show ¬(j:Int)<(((E.map edI).length:Nat):Int) by rw[bG];omega),cond_false,hj2,cN]
end
noncomputable section
theorem GM{a b:Nat}(ha:a<18446744073709551616)(hb:b<18446744073709551616):dL .and .u64 (a:Int) (b:Int)=((a&&& b:Nat):Int):=by
 have hlt:a&&& b<2 ^ 64:=Nat.and_lt_two_pow _ hb
 simp only[dL,BitVec.toNat_and,oY ha,oY hb]
 exact wrap_u64 hlt
theorem GN(l:Nat->Bool){c:Nat}(h:c<256):AW N0 (ofB l,((c:Int),()))=some ((l c,()),()):=by
 unfold AW
 have hw:c / 64<4:=by omega
 have hl:c % 64<64:=dS _ (by omega)
 have w1:IntKind.wrap .u8 (Int.tdiv (c:Int) 64)=((c / 64:Nat):Int):=by rw[Ds];exact iO (by omega)
 have g:=ib (l:=l) hw
 have n1:¬((64:Int)=0):=by omega
 have n2:¬(((c % 64:Nat):Int)<0):=by omega
 have n3:(0:Int)<=((c / 64:Nat):Int):=by omega
 simp only[w1,Dt]
 rw[if_neg n1,if_pos n3,af,g]
 simp only
 rw[if_neg n1,if_neg n2]
 have e1:Nat.min (Int.toNat ((c % 64:Nat):Int)) (IntKind.bits .u64)=c % 64:=by
  rw[af];exact c7 (by show c % 64<=64;omega)
 have hlt:=dn l (c / 64)
 have e2:Int.fdiv ((a8 l (c / 64):Nat):Int) (2 ^ (c % 64))=((a8 l (c / 64) / 2 ^ (c % 64):Nat):Int):=by
  rw[show(2:Int) ^ (c % 64)=((2 ^ (c % 64):Nat):Int) by simp]
  rw[Int.fdiv_eq_ediv_of_nonneg _ (dm (2 ^ (c % 64)))]
  exact(Int.natCast_ediv _ _).symm
 have e3:dL .and .u64 ((a8 l (c / 64) / 2 ^ (c % 64):Nat):Int) 1=((a8 l (c / 64) / 2 ^ (c % 64) % 2:Nat):Int):=by
  have:=GM (a:=a8 l (c / 64) / 2 ^ (c % 64)) (b:=1) (lE (Nat.div_le_self _ _) hlt) (by omega)
  rw[Nat.and_one_is_mod]at this
  exact this
 have hb:=cT l (c / 64) (c % 64)
 rw[rO,show 64*(c / 64)+c % 64=c by omega,decide_eq_true hl,bK]at hb
 have e4:decide (((a8 l (c / 64) / 2 ^ (c % 64) % 2:Nat):Int)=1)=l c:=by
  rw[<-hb,decide_eq_decide];omega
 rw[e1,e2,e3,e4]
def hasB(S:List Int)(c:Nat):Bool:=((S[c / 64]?).getD 0).toNat.testBit (c % 64)
theorem nO(l:Nat->Bool){c:Nat}(h:c<256):hasB (ofB l) c=l c:=by
 unfold hasB
 rw[ib (l:=l) (show c / 64<4 by omega)]
 show(((a8 l (c / 64):Nat):Int).toNat).testBit (c % 64)=l c
 rw[af,cT,show 64*(c / 64)+c % 64=c by omega,decide_eq_true (show c % 64<64 by omega),bK]
def sH(S:List Int):Prop:=S.length=4/\∀ x∈S,0<=x/\x<=18446744073709551615
theorem wG{S:List Int}(h:sH S){c:Nat}(hc:c<256):AW N0 (S,((c:Int),()))=some ((hasB S c,()),()):=by
 obtain⟨l,rfl⟩:=yS h.1 h.2
 rw[GN l hc,nO l hc]
def aS(E:List Ed)(f:Nat->Bool)(c:Nat):Nat->Bool:=λx=>E.any λe=>!e.2.2.2&&(f e.1&&(hasB e.2.2.1 c&&decide (x=e.2.1)))
theorem Jc(t:Rx)(hok:t.ok):∀ (n:Nat),∀ e∈t.ap n,sH e.2.2.1:=by
 have hz:sH zS:=⟨rfl,by decide⟩
 induction t with
 |eps=>intro n e he;simp[Rx.ap,fE]at he;subst he;exact hz
 |set S=>intro n e he;simp[Rx.ap]at he;subst he;exact⟨hok.1,hok.2.2⟩
 |cat a b iha ihb=>
  intro n e he
  simp only[Rx.ap,aC,aH,bP,or_false]at he
  rcases he with(he|he)|he|he|he
  ·exact iha hok.1 n e he
  ·exact ihb hok.2 _ e he
  all_goals subst he;exact hz
 |alt a b iha ihb=>
  intro n e he
  simp only[Rx.ap,aC,aH,bP,or_false]at he
  rcases he with(he|he)|he|he|he|he
  ·exact iha hok.1 n e he
  ·exact ihb hok.2 _ e he
  all_goals subst he;exact hz
 |rep k a ih=>
  intro n e he
  simp only[Rx.ap,aC,aH,bP,or_false]at he
  rcases he with((he|he|he)|he)|he
  ·exact ih hok.2 n e he
  ·subst he;exact hz
  ·subst he;exact hz
  ·split at he
   ·simp at he
   ·simp only[eV]at he;subst he;exact hz
  ·split at he
   ·simp at he
   ·simp only[eV]at he;subst he;exact hz
theorem GO{n:Nat}(hn:n<=100000){E:List Ed}(hE:E.length<=100000)(hin:InE n E)(hS:∀ e∈E,sH e.2.2.1)(X:Int×Int)(f:Nat->Bool){c:Nat}(hc:c<256):
 FW N0 (((n:Int),(E.map edI,X)),(bsN n f,((c:Int),())))=some ((bsN n (aS E f c),()),()):=by
 unfold FW
 simp only
 have bh:List.replicate ((n:Int)).toNat false=bsN n (aS [] f c):=by
  rw[af]
  unfold bsN aS
  apply dO
  intro i
  rw[cn]
  by_cases hi:i<n
  ·rw[gn hi,jt,if_pos hi];rfl
  ·rw[br (by rw[gk];omega),br (by rw[lG];omega)];rfl
 rw[if_pos (show(0:Int)<=(n:Int)/\(n:Int)<=(n:Int) by omega),if_pos (show((n:Int)).toNat*1<=140737488355328 by rw[af];omega),bh]
 refine ba (λm x q=>∃ j:Nat,x=((bsN n (aS (E.take j) f c),()),((j:Int),()))/\m+j=E.length/\q=some ((bsN n (aS E f c),()),())) ?_ N0 E.length _ _ (by unfold N0;omega) ⟨0,rfl,rfl,rfl⟩
 rintro m x q ⟨j,rfl,hm,rfl⟩ k hk
 simp only
 rcases av j E.length with hj|hj
 ·have n0:(0:Int)<=(j:Int):=by omega
  have hj2:(E.map edI)[j]?=some (edI E[j]):=by rw[cn,au hj];rfl
  have htk:E.take (j+1)=E.take j++[E[j]]:=by rw[il,au hj];rfl
  obtain⟨r1,r2⟩:=hin _ (bO hj)
  have hse:=hS _ (bO hj)
  generalize E[j]=e at hj2 htk r1 r2 hse
  have hst:∀ x,aS (E.take (j+1)) f c x=(aS (E.take j) f c x||(!e.2.2.2&&(f e.1&&(hasB e.2.2.1 c&&decide (x=e.2.1))))):=by
   intro x
   rw[htk]
   unfold aS
   rw[List.any_append]
   simp
  have n1:(0:Int)<=(e.1:Int):=by omega
  have n2:(0:Int)<=(e.2.1:Int):=by omega
  rw[decide_eq_true (show(j:Int)<(((E.map edI).length:Nat):Int) by rw[bG];omega),cond_true,if_pos n0,af,hj2]
  simp only
  refine aQ ((bsN n (aS (E.take j) f c),()),((!e.2.2.2&&(f e.1&&hasB e.2.2.1 c)),())) (λK=>?_) ?_
  ·cases e.2.2.2
   ·rw[aG,cond_true,decide_eq_true (show(e.1:Int)<(((bsN n f).length:Nat):Int) by rw[fY];omega),cond_true,if_pos n1,af,fZ f r1]
    simp only
    cases f e.1
    ·rfl
    ·rw[cond_true,aa (wG hse hc)]
     rfl
   ·rfl
  ·simp only
   have w1:IntKind.wrap .i64 ((j:Int)+1)=((j+1:Nat):Int):=cE (by omega)
   rw[w1]
   refine aQ ((bsN n (aS (E.take (j+1)) f c),()),()) (λK=>?_) ?_
   ·cases hb:(!e.2.2.2&&(f e.1&&hasB e.2.2.1 c))
    ·rw[cond_false]
     have:aS (E.take (j+1)) f c=aS (E.take j) f c:=by
      funext x
      rw[hst x]
      have:(!e.2.2.2&&(f e.1&&(hasB e.2.2.1 c&&decide (x=e.2.1))))=((!e.2.2.2&&(f e.1&&hasB e.2.2.1 c))&&decide (x=e.2.1)):=by simp[lJ]
      rw[this,hb];simp
     rw[this]
    ·rw[cond_true,if_pos n2,af,fZ _ r2]
     simp only
     rw[if_pos n2,uc _ r2]
     have:aS (E.take (j+1)) f c=λx=>aS (E.take j) f c x||decide (x=e.2.1):=by
      funext x
      rw[hst x]
      have:(!e.2.2.2&&(f e.1&&(hasB e.2.2.1 c&&decide (x=e.2.1))))=((!e.2.2.2&&(f e.1&&hasB e.2.2.1 c))&&decide (x=e.2.1)):=by simp[lJ]
      rw[this,hb];simp
     rw[this]
   ·simp only
    exact hk (m-1) _ _ (by omega) ⟨j+1,rfl,by omega,rfl⟩
 ·have hj2:j=E.length:=by omega
  rw[decide_eq_false (show ¬(j:Int)<(((E.map edI).length:Nat):Int) by rw[bG];omega),cond_false,hj2,cN]
end
noncomputable section
theorem wH(l:Nat->Bool)(w:Nat):∃ n,n=kF (λi=>l (8*w+i)) 8:=⟨_,rfl⟩
def jW(l:Nat->Bool)(w:Nat):Nat:=Classical.choose (wH l w)
theorem sI(l:Nat->Bool)(w:Nat):jW l w=kF (λi=>l (8*w+i)) 8:=Classical.choose_spec (wH l w)
theorem DU(l:Nat->Bool)(w:Nat):jW l w<256:=by rw[sI];exact qY _ 8
theorem gG(l:Nat->Bool)(w i:Nat):(jW l w).testBit i=(decide (i<8)&&l (8*w+i)):=by rw[sI];exact sw _ 8 i
theorem Bf{l m:Nat->Bool}{w:Nat}(h:∀ i,i<8->l (8*w+i)=m (8*w+i)):jW l w=jW m w:=by
 apply ik
 intro i
 rw[gG,gG]
 by_cases hi:i<8
 ·rw[h i hi]
 ·simp[hi]
theorem GP{l:Nat->Bool}{w i:Nat}(hi:i<8):jW l w|||2 ^ i=jW (λx=>l x||decide (x=8*w+i)) w:=by
 apply ik
 intro j
 rw[Nat.testBit_or,gG,gG,Nat.testBit_two_pow]
 by_cases hj:j<8
 ·simp only[hj,decide_true,bK]
  congr 1
  rw[decide_eq_decide];omega
 ·simp only[hj,decide_false,dE,cR,decide_eq_false_iff_not];omega
theorem yV{n:Nat}(h:n<256):(BitVec.ofInt (IntKind.bits .u8) (n:Int)).toNat=n:=by
 have:IntKind.bits .u8=8:=rfl
 rw[this,BitVec.toNat_ofInt]
 omega
theorem GQ{a b:Nat}(ha:a<256)(hb:b<256):dL .or .u8 (a:Int) (b:Int)=((a|||b:Nat):Int):=by
 have hlt:a|||b<2 ^ 8:=Nat.or_lt_two_pow ha hb
 simp only[dL,BitVec.toNat_or,yV ha,yV hb]
 exact iO hlt
theorem yW{i:Nat}(h:i<8):2 ^ i<256:=bc (Nat.pow_lt_pow_right (by omega) h) (by decide)
theorem wI{i:Nat}(h:i<8):IntKind.wrap .u8 ((1:Int)*2 ^ (Nat.min (Int.toNat (i:Int)) (IntKind.bits .u8)))=((2 ^ i:Nat):Int):=by
 have e:Nat.min (Int.toNat (i:Int)) (IntKind.bits .u8)=i:=by
  rw[af];exact c7 (by show i<=8;omega)
 rw[e,Int.one_mul]
 have:=iO (yW h)
 rw[<-this]
 congr 1
def fc(n:Nat)(l:Nat->Bool):List Int:=(List.range ((n+7) / 8)).map λw=>((jW l w:Nat):Int)
theorem nP(n:Nat)(l:Nat->Bool):(fc n l).length=(n+7) / 8:=by simp[fc]
theorem iQ{n:Nat}(l:Nat->Bool){w:Nat}(h:w<(n+7) / 8):(fc n l)[w]?=some ((jW l w:Nat):Int):=by
 unfold fc
 rw[cn,gn h]
 rfl
theorem wJ{n:Nat}(l:Nat->Bool){i:Nat}(h:i<n):(fc n l).set (i / 8) (dL .or .u8 ((jW l (i / 8):Nat):Int) ((2 ^ (i % 8):Nat):Int))=fc n (λx=>l x||decide (x=i)):=by
 have hi:i % 8<8:=dS _ (by omega)
 rw[GQ (DU _ _) (yW hi),GP hi,show 8*(i / 8)+i % 8=i by omega]
 apply dO
 intro j
 rw[jx]
 by_cases hj:j<(n+7) / 8
 ·have g1:=iQ (n:=n) (λx=>l x||decide (x=i)) hj
  have g2:=iQ (n:=n) l hj
  rw[g1,g2]
  by_cases e:i / 8=j
  ·subst e
   rw[if_pos rfl,if_pos (by rw[nP];omega)]
  ·rw[if_neg e,Bf (l:=l) (m:=λx=>l x||decide (x=i)) (w:=j) λk hk=>by
    have:¬8*j+k=i:=by omega
    simp[this]]
 ·have e1:(fc n λx=>l x||decide (x=i))[j]?=none:=br (by rw[nP];omega)
  have e2:(fc n l)[j]?=none:=br (by rw[nP];omega)
  rw[e1,e2,if_neg (by omega)]
theorem sJ(n:Nat):List.replicate ((n+7) / 8) (0:Int)=fc n (λ_=>false):=by
 apply dO
 intro j
 by_cases hj:j<(n+7) / 8
 ·rw[iQ _ hj,jt,if_pos hj]
  have:jW (λ_=>false) j=0:=by
   apply ik
   intro i
   rw[gG]
   simp
  rw[this];rfl
 ·rw[br (by rw[gk];omega),br (by rw[nP];omega)]
theorem DV{n:Nat}{l m:Nat->Bool}(h:fc n l=fc n m):∀ i,i<n->l i=m i:=by
 intro i hi
 have hw:i / 8<(n+7) / 8:=by omega
 have g:(fc n l)[i / 8]?=(fc n m)[i / 8]?:=by rw[h]
 rw[iQ _ hw,iQ _ hw]at g
 injection g with g
 have g:jW l (i / 8)=jW m (i / 8):=by omega
 have b1:=gG l (i / 8) (i % 8)
 have b2:=gG m (i / 8) (i % 8)
 rw[g,b2,show 8*(i / 8)+i % 8=i by omega,decide_eq_true (show i % 8<8 by omega),bK,bK]at b1
 exact b1.symm
theorem jX{n:Nat}{l m:Nat->Bool}(h:∀ i,l i=m i):fc n l=fc n m:=by
 have:l=m:=funext h
 rw[this]
theorem K1{n:Nat}(hn:n<=100000):IntKind.wrap .i64 (Int.tdiv (IntKind.wrap .i64 ((n:Int)+7)) 8)=(((n+7) / 8:Nat):Int):=by
 have e:(n:Int)+7=((n+7:Nat):Int):=by omega
 rw[e,bo (by omega),show(8:Int)=((8:Nat):Int) by rfl,<-jB]
 exact bo (by omega)
theorem td8(i:Nat)(h:i<=100000):IntKind.wrap .i64 (Int.tdiv (i:Int) 8)=((i / 8:Nat):Int):=by
 rw[show(8:Int)=((8:Nat):Int) by rfl,<-jB]
 exact bo (by omega)
theorem tm8(i:Nat):IntKind.wrap .u64 (Int.tmod (i:Int) 8)=((i % 8:Nat):Int):=by
 rw[show(8:Int)=((8:Nat):Int) by rfl,<-lL]
 exact wrap_u64 (by omega)
def xV(n:Nat)(f:Nat->Bool):Nat->Bool:=λx=>decide (x<n)&&f x
theorem GR{n:Nat}(hn:n<=100000)(f:Nat->Bool):FT N0 (bsN n f,())=some ((fc n (xV n f),()),()):=by
 unfold FT
 have n8:¬((8:Int)=0):=by omega
 simp only[fY,K1 hn]
 rw[if_neg n8,if_pos ⟨by omega,by omega⟩,if_pos (by rw[af];omega),af,sJ]
 have e0:fc n (λ_=>false)=fc n (λx=>decide (x<0)&&f x):=jX λi=>by simp
 rw[e0]
 refine ba (λm x q=>∃ j:Nat,x=((fc n (λx=>decide (x<j)&&f x),()),((j:Int),()))/\m+j=n/\q=some ((fc n (xV n f),()),())) ?_ N0 n _ _ (by unfold N0;omega) ⟨0,rfl,rfl,rfl⟩
 rintro m x q ⟨j,rfl,hm,rfl⟩ k hk
 simp only
 rcases av j n with hj|hj
 ·have n0:(0:Int)<=(j:Int):=by omega
  have n1:(0:Int)<=((j / 8:Nat):Int):=by omega
  have n2:¬(((j % 8:Nat):Int)<0):=by omega
  have hw:j / 8<(n+7) / 8:=by omega
  have h8:j % 8<8:=dS _ (by omega)
  rw[decide_eq_true (show(j:Int)<(n:Int) by omega),cond_true,if_pos n0,af,fZ f hj]
  simp only
  refine aQ ((fc n (λx=>decide (x<j+1)&&f x),()),()) (λK=>?_) ?_
  ·have est:∀ x,(decide (x<j+1)&&f x)=((decide (x<j)&&f x)||(decide (x=j)&&f j)):=by
    intro x
    by_cases hx:x=j
    ·subst hx
     have h1:¬x<x:=by omega
     have h2:x<x+1:=by omega
     simp[h1,h2]
    ·have:(x<j+1)↔(x<j):=by omega
     simp[this,hx]
   cases hb:f j
   ·rw[cond_false,jX (n:=n) (l:=λx=>decide (x<j+1)&&f x) (m:=λx=>decide (x<j)&&f x) λx=>by rw[est x,hb];simp]
   ·rw[cond_true,if_neg n8,td8 j (by omega),if_pos n1,af,iQ _ hw]
    simp only
    rw[if_neg n8,tm8,if_neg n2,if_pos n1]
    simp only[if_pos n1,wI h8]
    rw[wJ _ hj,jX (n:=n) (l:=λx=>decide (x<j+1)&&f x) (m:=λx=>(decide (x<j)&&f x)||decide (x=j)) λx=>by rw[est x,hb];simp]
  ·simp only
   rw[cE (by omega)]
   exact hk (m-1) _ _ (by omega) ⟨j+1,rfl,by omega,rfl⟩
 ·have:j=n:=by omega
  subst this
  rw[decide_eq_false (show ¬(j:Int)<(j:Int) by omega),cond_false]
  rfl
end
noncomputable section
def inS(cU:List (List Int))(c:Nat)(x:Nat):Bool:=hasB ((cU[x]?).getD []) c
theorem GS{cU:List (List Int)}(hn:cU.length<=100000)(hS:∀ S∈cU,sH S){c:Nat}(hc:c<256):FQ N0 (cU,((c:Int),()))=some ((fc cU.length (xV cU.length (inS cU c)),()),()):=by
 unfold FQ
 have n8:¬((8:Int)=0):=by omega
 simp only[K1 hn]
 rw[if_neg n8,if_pos ⟨by omega,by omega⟩,if_pos (by rw[af];omega),af,sJ]
 have e0:fc cU.length (λ_=>false)=fc cU.length (λx=>decide (x<0)&&inS cU c x):=jX λi=>by simp
 rw[e0]
 refine ba (λm x q=>∃ j:Nat,x=((fc cU.length (λx=>decide (x<j)&&inS cU c x),()),((j:Int),()))/\m+j=cU.length/\q=some ((fc cU.length (xV cU.length (inS cU c)),()),())) ?_ N0 cU.length _ _ (by unfold N0;omega) ⟨0,rfl,rfl,rfl⟩
 rintro m x q ⟨j,rfl,hm,rfl⟩ k hk
 simp only
 rcases av j cU.length with hj|hj
 ·have n0:(0:Int)<=(j:Int):=by omega
  have n1:(0:Int)<=((j / 8:Nat):Int):=by omega
  have n2:¬(((j % 8:Nat):Int)<0):=by omega
  have hw:j / 8<(cU.length+7) / 8:=by omega
  have h8:j % 8<8:=dS _ (by omega)
  have hj2:cU[j]?=some cU[j]:=au hj
  have hin:inS cU c j=hasB cU[j] c:=by unfold inS;rw[hj2];rfl
  have hok:=hS _ (bO hj)
  generalize cU[j]=S at hj2 hin hok
  rw[decide_eq_true (show(j:Int)<((cU.length:Nat):Int) by omega),cond_true,if_pos n0,af,hj2]
  simp only
  rw[aa (wG hok hc),<-hin]
  simp only
  refine aQ ((fc cU.length (λx=>decide (x<j+1)&&inS cU c x),()),()) (λK=>?_) ?_
  ·have est:∀ x,(decide (x<j+1)&&inS cU c x)=((decide (x<j)&&inS cU c x)||(decide (x=j)&&inS cU c j)):=by
    intro x
    by_cases hx:x=j
    ·subst hx
     have h1:¬x<x:=by omega
     have h2:x<x+1:=by omega
     simp[h1,h2]
    ·have:(x<j+1)↔(x<j):=by omega
     simp[this,hx]
   cases hb:inS cU c j
   ·rw[cond_false,jX (n:=cU.length) (l:=λx=>decide (x<j+1)&&inS cU c x) (m:=λx=>decide (x<j)&&inS cU c x) λx=>by rw[est x,hb];simp]
   ·rw[cond_true,if_neg n8,td8 j (by omega),if_pos n1,af,iQ _ hw]
    simp only
    rw[if_neg n8,tm8,if_neg n2,if_pos n1]
    simp only[if_pos n1,wI h8]
    rw[wJ _ hj,jX (n:=cU.length) (l:=λx=>decide (x<j+1)&&inS cU c x) (m:=λx=>(decide (x<j)&&inS cU c x)||decide (x=j)) λx=>by rw[est x,hb];simp]
  ·simp only
   rw[cE (by omega)]
   exact hk (m-1) _ _ (by omega) ⟨j+1,rfl,by omega,rfl⟩
 ·have:j=cU.length:=by omega
  subst this
  rw[decide_eq_false (show ¬((cU.length:Nat):Int)<((cU.length:Nat):Int) by omega),cond_false]
  rfl
end
noncomputable section
theorem DW{α β:Type}(eq:α->α->Bool)(k:α)(v:β):∀ x:List (α×β),(fB eq k v x).length<=x.length+1:=by
 intro x
 induction x with
 |nil=>simp[fB]
 |cons p r ih=>
  simp only[fB]
  cases eq k p.1
  ·simp;exact ih
  ·simp
theorem xW(x:Int):0<=IntKind.wrap .u8 x/\IntKind.wrap .u8 x<=255:=by
 have h:=dU .u8 x
 exact⟨h.1,h.2⟩
def pD(arr:List Int):Prop:=arr.length=256/\∀ v∈arr,0<=v/\v<=255
theorem Bg{arr:List Int}(h:pD arr)(i:Nat)(x:Int):pD (arr.set i (IntKind.wrap .u8 x)):=by
 refine⟨by rw[eW];exact h.1,λv hv=>?_⟩
 rcases List.mem_or_eq_of_mem_set hv with hv|rfl
 ·exact h.2 v hv
 ·exact xW x
theorem GU{cU:List (List Int)}(hn:cU.length<=100000)(hS:∀ S∈cU,sH S):∃ arr,FR N0 (cU,())=some ((arr,()),())/\pD arr:=by
 unfold FR
 simp only
 have hz:pD (List.replicate 256 (0:Int)):=⟨gk,λv hv=>by rw[List.mem_replicate]at hv;omega⟩
 generalize List.replicate 256 (0:Int)=zs at hz |-
 refine dz (λm x=>∃ (c:Nat) (arr:List Int) (mp:List (List Int×Int)),x=((zs,(arr,(mp,()))),((c:Int),()))/\m+c=256/\pD arr/\mp.length<=c) (λz=>∃ arr,z=some ((arr,()),())/\pD arr) ?_ N0 256 _ (by unfold N0;omega) ⟨0,zs,[],rfl,rfl,hz,ar _⟩
 rintro m x ⟨c,arr,mp,rfl,hm,ha,hmp⟩ k hk
 simp only
 rcases av c 256 with hc|hc
 ·have n0:(0:Int)<=(c:Int):=by omega
  obtain⟨v,hv⟩:∃ v,arr[c]?=some v:=⟨arr[c]'(by rw[ha.1];exact hc),au _⟩
  rw[decide_eq_true (show(c:Int)<256 by omega),cond_true,iO hc,aa (GS hn hS hc)]
  simp only
  refine nJ (P:=λz=>∃ arr,z=some ((arr,()),())/\pD arr) λK hK=>?_
  have go:∀ (mp':List (List Int×Int)) (y:Int),mp'.length<=c+1->∃ r,K ((zs,(arr,(mp',()))),(y,()))=some ((r,()),())/\pD r:=by
   intro mp' y hl
   rw[hK]
   simp only
   rw[if_pos n0,af,hv]
   simp only
   rw[if_pos n0,cE (by omega)]
   exact hk (m-1) _ (by omega) ⟨c+1,_,mp',rfl,by omega,Bg ha c y,hl⟩
  generalize fc cU.length (xV cU.length (inS cU c))=key
  cases hh:gy (λv10 v11=>decide (v10=v11)) key mp
  ·have HM:tm mp=true:=by
    unfold tm maxLen
    rw[jD]
    omega
   rw[aG,cond_true,HM,cond_true]
   exact go _ _ (bn (DW _ _ _ _) (by omega))
  ·rw[az,cond_false]
   exact go _ _ (by omega)
 ·rw[decide_eq_false (show ¬(c:Int)<256 by omega),cond_false]
  exact⟨arr,rfl,ha⟩
end
noncomputable section
def mkL(n last:Nat):List Int:=(List.range n).map λq=>if q=last then 0 else -1
theorem yX(n last:Nat):(mkL n last).length=n:=by simp[mkL]
theorem yY{n:Nat}(last:Nat){i:Nat}(h:i<n):(mkL n last)[i]?=some (if i=last then 0 else -1):=by
 unfold mkL
 rw[cn,gn h]
 rfl
theorem GV{n:Nat}(last:Nat){i:Nat}(h:i<n):FU N0 (mkL n last,((i:Int),()))=some ((if i=last then 0 else -1,()),()):=by
 unfold FU
 have n0:(0:Int)<=(i:Int):=by omega
 simp only
 rw[decide_eq_false (show ¬(((mkL n last).length:Nat):Int)<=(i:Int) by rw[yX];omega),cond_false,if_pos n0,af,yY last h]
def gb(f:Nat->Bool)(last i:Nat):Int:=if f last=true/\last<i then 0 else -1
theorem GW{n:Nat}(hn:n<=100000){last:Nat}(hl:last<n)(b)(hb:b.2.1=mkL n last)(f:Nat->Bool):FV N0 (some b,(bsN n f,()))=some ((gb f last n,()),()):=by
 unfold FV
 simp only[hb]
 refine ba (λm x q=>∃ i:Nat,x=((),(gb f last i,((i:Int),())))/\m+i=n/\q=some ((gb f last n,()),())) ?_ N0 n _ _ (by unfold N0;omega) ⟨0,by rw[show gb f last 0=-1 from by unfold gb;rw[if_neg (by omega)]];rfl,rfl,rfl⟩
 rintro m x q ⟨i,rfl,hm,rfl⟩ k hk
 simp only
 rcases av i n with hi|hi
 ·have n0:(0:Int)<=(i:Int):=by omega
  rw[decide_eq_true (show(i:Int)<(((bsN n f).length:Nat):Int) by rw[fY];omega),cond_true,if_pos n0,af,fZ f hi]
  simp only
  rw[aa (GV last hi)]
  simp only
  refine aQ ((),(f i&&decide (i=last),())) (λK=>?_) ?_
  ·cases f i
   ·rfl
   ·rw[cond_true]
    by_cases e:i=last
    ·subst e
     have h1:gb f i i=-1:=by unfold gb;rw[if_neg (by omega)]
     rw[if_pos rfl,h1]
     simp
    ·rw[if_neg e]
     simp[e]
  ·simp only
   refine aQ ((),(gb f last (i+1),())) (λK=>?_) ?_
   ·by_cases e:i=last
    ·subst e
     cases hf:f i
     ·have h1:gb f i i=gb f i (i+1):=by unfold gb;simp[hf]
      simp[h1]
     ·have h1:gb f i (i+1)=0:=by unfold gb;rw[if_pos ⟨hf,by omega⟩]
      simp[h1]
    ·have h1:gb f last i=gb f last (i+1):=by
      unfold gb
      have:(last<i+1)↔(last<i):=by omega
      simp[this]
     simp[e,h1]
   ·simp only
    rw[cE (by omega)]
    exact hk (m-1) _ _ (by omega) ⟨i+1,rfl,by omega,rfl⟩
 ·have:i=n:=by omega
  subst this
  rw[decide_eq_false (show ¬(i:Int)<(((bsN i f).length:Nat):Int) by rw[fY];omega),cond_false]
end
noncomputable section
theorem xX{E:List Ed}{g:Nat->Bool}(hg:ky E g){p q:Nat}(h:Fr0 E p q)(hp:g p=true):g q=true:=by
 induction h with
 |refl=>exact hp
 |step _ he ih=>exact hg _ he rfl ih
theorem Bh(t:Rx){g:Nat->Bool}(h:fO (t.ap 0) (λx=>decide (x=t.fst 0)) g):g (t.lst 0)=t.null:=by
 obtain⟨h1,h2,h3⟩:=h
 cases hn:t.null
 ·have hle:=h3 (t.cl 0) (λe he hf hp=>t.yG 0 e he hf hp) (λx hx=>by
   rw[decide_eq_true_eq]at hx
   rw[hx];exact t.lv 0)
  cases hg:g (t.lst 0)
  ·rfl
  ·have:=hle _ hg
   rw[t.oV,hn]at this
   cases this
 ·exact xX h2 (t.Dn 0 hn) (h1 _ (by simp))
theorem dZ{E:List Ed}{f g g':Nat->Bool}(h:fO E f g)(h':fO E f g'):g=g':=by
 funext x
 cases hg:g x
 ·cases hg':g' x
  ·rfl
  ·have:=h'.2.2 g h.2.1 h.1 x hg'
   rw[hg]at this;cases this
 ·exact(h.2.2 g' h'.2.1 h'.1 x hg).symm
def eJ(E:List Ed):List Nat:=(E.filter λe=>!e.2.2.2).map λe=>e.2.1
def onT(E:List Ed)(f:Nat->Bool):List Bool:=(eJ E).map f
theorem mb{E:List Ed}{f:Nat->Bool}{c x:Nat}(h:aS E f c x=true):x∈eJ E:=by
 unfold aS at h
 rw[fJ]at h
 obtain⟨e,he,h⟩:=h
 simp only[ag,bq,decide_eq_true_eq]at h
 obtain⟨h1,_,_,h2⟩:=h
 unfold eJ
 rw[iu]
 exact⟨e,ou.2 ⟨he,by simp[h1]⟩,h2.symm⟩
theorem o6{E:List Ed}{f f':Nat->Bool}{c c':Nat}(h:onT E (aS E f c)=onT E (aS E f' c')):aS E f c=aS E f' c':=by
 have key:∀ x,x∈eJ E->aS E f c x=aS E f' c' x:=by
  unfold onT at h
  intro x hx
  exact List.map_inj_left.1 h x hx
 funext x
 cases h1:aS E f c x
 ·cases h2:aS E f' c' x
  ·rfl
  ·have:=key x (mb h2)
   rw[h1,h2]at this;exact this
 ·have:=key x (mb h1)
  rw[h1]at this;exact this
def K2(E:List Ed)(f0 g:Nat->Bool):Prop:=fO E f0 g\/∃ f c,fO E (aS E f c) g
theorem nQ(E:List Ed)(f:Nat->Bool):(onT E f).length=(eJ E).length:=by simp[onT]
theorem GX{E:List Ed}{f0:Nat->Bool}(l:List (Nat->Bool))(hn:l.Nodup)(h:∀ g∈l,K2 E f0 g):l.length<=2 ^ (eJ E).length+1:=by
 refine tT (λ(g:Nat->Bool) (k:Nat)=>(k=0/\fO E f0 g)\/(0<k/\∃ f c,fO E (aS E f c) g/\k=dg (onT E (aS E f c))+1)) ?_ (2 ^ (eJ E).length+1) l hn ?_
 ·rintro x y k (⟨hk,hx⟩|⟨hk,f,c,hx,e⟩) (⟨hk',hy⟩|⟨hk',f',c',hy,e'⟩)
  ·exact dZ hx hy
  ·omega
  ·omega
  ·have hb:dg (onT E (aS E f c))=dg (onT E (aS E f' c')):=by omega
   have:=l7 _ _ (by rw[nQ,nQ]) hb
   have:=o6 this
   rw[this]at hx
   exact dZ hx hy
 ·intro g hg
  rcases h g hg with hg|⟨f,c,hg⟩
  ·exact⟨0,Nat.succ_pos _,.inl ⟨rfl,hg⟩⟩
  ·have:=jU (onT E (aS E f c))
   rw[nQ]at this
   exact⟨_,by omega,.inr ⟨by omega,f,c,hg,rfl⟩⟩
end
noncomputable section
def Rx.cL:Rx->Nat
 |.eps=>0
 |.set _=>1
 |.cat a b=>a.cL+b.cL
 |.alt a b=>a.cL+b.cL
 |.rep _ a=>a.cL
theorem gd(E E':List Ed):eJ (E++E')=eJ E++eJ E':=by unfold eJ;rw[List.filter_append,dQ]
theorem ri:∀ (t:Rx) (n:Nat),(eJ (t.ap n)).length=t.cL:=by
 intro t
 induction t with
 |eps=>intro n;rfl
 |set S=>intro n;rfl
 |cat a b iha ihb=>
  intro n
  simp only[Rx.ap,gd,al,iha,ihb,Rx.cL]
  rfl
 |alt a b iha ihb=>
  intro n
  simp only[Rx.ap,gd,al,iha,ihb,Rx.cL]
  rfl
 |rep k a ih=>
  intro n
  simp only[Rx.ap,gd,al,ih,Rx.cL]
  split <;> split <;> rfl
end
noncomputable section
def o7(S:List Int):Prop:=S=ofB (λ_=>true)\/∃ c:Int,S=ofB (oW c)
def Rx.pw:Rx->Nat
 |.cat ..=>2
 |.alt ..=>2
 |_=>0
def Rx.cw:Rx->Nat
 |.alt ..=>2
 |_=>0
open Classical in
def Rx.wt:Rx->Nat
 |.eps=>1
 |.set S=>if o7 S then 1 else 2
 |.cat a b=>a.wt+a.cw+(b.wt+b.pw)
 |.alt a b=>a.wt+(b.wt+b.cw)+1
 |.rep _ a=>a.wt+a.pw+1
theorem Rx.Jd:Rx.wt .eps=1:=by rw[Rx.wt]
theorem Rx.ud(a b:Rx):(Rx.cat a b).wt=a.wt+a.cw+(b.wt+b.pw):=by rw[Rx.wt]
theorem Rx.rj(a b:Rx):(Rx.alt a b).wt=a.wt+(b.wt+b.cw)+1:=by rw[Rx.wt]
theorem Rx.ue(k:Int)(a:Rx):(Rx.rep k a).wt=a.wt+a.pw+1:=by rw[Rx.wt]
theorem Rx.Je(k:Int)(a:Rx):(Rx.rep k a).pw=0:=rfl
theorem Rx.DX(a b:Rx):(Rx.cat a b).cw=0:=rfl
theorem Rx.Jf(k:Int)(a:Rx):(Rx.rep k a).cw=0:=rfl
theorem Rx.Jg(a b:Rx):(Rx.alt a b).cw=2:=rfl
theorem Rx.K3:∀ t:Rx,t.pw<=2:=by intro t;cases t <;> simp[Rx.pw]
def Wo(i:Nat)(o:Option (Rx×Nat)):Prop:=∀ t j,o=some (t,j)->t.wt+i<=j
def WoP(i:Nat)(o:Option (Rx×Nat)):Prop:=∀ t j,o=some (t,j)->t.wt+t.pw+i<=j
def WoC(i:Nat)(o:Option (Rx×Nat)):Prop:=∀ t j,o=some (t,j)->t.wt+t.cw+i<=j
theorem GY{s:List Int}(hb:Bytes s){inner:Nat->Nat->Option (Rx×Nat)}{i d:Nat}(hin:Wo (i+1) (inner (i+1) (d+1))):WoP i (kK inner s i d):=by
 intro t j h
 unfold kK at h
 split at h
 ·cases h
 split at h
 ·injection h with h;injection h with h1 h2;subst h1;subst h2;simp only[Rx.wt,Rx.pw,if_pos (show o7 (ofB λ_=>true)from .inl rfl)];omega
 split at h
 ·injection h with h;injection h with h1 h2;subst h1;subst h2;simp only[Rx.wt,Rx.pw];omega
 split at h
 ·have hr:=(yO hb (show i+1-1<i+1 by omega) t j h).1
  rw[tX]at h
  unfold lx at h
  split at h
  ·cases h
  rename_i l k hl
  generalize (if eC s (i+1) 94=true then λx=>!l x else l)=l' at h
  split at h
  ·cases h
  injection h with h
  injection h with h1 h2
  subst h1
  have hk:=yN hb _ _ _ _ _ hl
  have hk2:i+1<=k:=by
   refine bn ?_ hk
   split <;> omega
  have hw:Rx.wt (.set (ofB l'))<=2:=by simp only[Rx.wt];split <;> omega
  simp only[Rx.pw]
  omega
 split at h
 ·split at h
  ·cases h
  split at h
  ·cases h
  rename_i t2 j2 hi2
  have:=hin _ _ hi2
  have:=t2.K3
  split at h
  ·injection h with h;injection h with h1 h2;subst h1;subst h2;omega
  ·cases h
 split at h
 ·cases h
 rename_i c n hrd
 obtain⟨h1,h2,h3⟩:=jm (hb.drop i) hrd
 injection h with h;injection h with h4 h5;subst h4;subst h5
 simp only[Rx.wt,Rx.pw,if_pos (show o7 (ofB (oW c))from .inr ⟨c,rfl⟩)];omega
theorem GZ{s:List Int}:∀ (m i0 i:Nat) (t0 t:Rx) (j:Nat),t0.wt+t0.pw+i0<=i->oX s m i t0=some (t,j)->t.wt+t.pw+i0<=j:=by
 intro m
 induction m with
 |zero=>intro i0 i t0 t j _ h;cases h
 |succ m ih=>
  intro i0 i t0 t j hr h
  simp only[oX]at h
  split at h
  ·exact ih i0 (i+1) _ t j (by rw[Rx.ue,Rx.Je];omega) h
  ·injection h with h;injection h with h1 h2;subst h1;subst h2;exact hr
theorem yZ{s:List Int}(hb:Bytes s){inner:Nat->Nat->Option (Rx×Nat)}{i d:Nat}(hin:Wo (i+1) (inner (i+1) (d+1))):WoP i (jl inner s i d):=by
 intro t j h
 unfold jl at h
 split at h
 ·cases h
 rename_i t0 i0 h0
 exact GZ _ i i0 t0 t j (GY hb hin _ _ h0) h
theorem K4(t:Rx):t.cw<=t.pw:=by cases t <;> simp[Rx.cw,Rx.pw]
theorem G0{s:List Int}(hb:Bytes s){inner:Nat->Nat->Option (Rx×Nat)}{d:Nat}(hin:∀ i d,Wo i (inner i d)):∀ (m i0 i:Nat) (t0 t:Rx) (j:Nat),t0.wt+t0.cw+i0<=i->pM inner s d m i t0=some (t,j)->t.wt+t.cw+i0<=j:=by
 intro m
 induction m with
 |zero=>intro i0 i t0 t j _ h;cases h
 |succ m ih=>
  intro i0 i t0 t j hr h
  simp only[pM]at h
  split at h
  ·split at h
   ·cases h
   rename_i t2 j2 h2
   have:=yZ hb (hin (i+1) (d+1)) _ _ h2
   exact ih i0 j2 _ t j (by rw[Rx.ud,Rx.DX];omega) h
  ·injection h with h;injection h with h1 h2;subst h1;subst h2;exact hr
theorem y0{s:List Int}(hb:Bytes s){inner:Nat->Nat->Option (Rx×Nat)}{i d:Nat}(hin:∀ i d,Wo i (inner i d)):WoC i (jV inner s i d):=by
 intro t j h
 unfold jV at h
 split at h
 ·cases h
 rename_i t0 i0 h0
 have h1:=yZ hb (hin (i+1) (d+1)) _ _ h0
 have h2:=K4 t0
 exact G0 hb hin _ i i0 t0 t j (by omega) h
theorem G1{s:List Int}(hb:Bytes s){inner:Nat->Nat->Option (Rx×Nat)}{d:Nat}(hin:∀ i d,Wo i (inner i d)):∀ (m i0 i:Nat) (t0 t:Rx) (j:Nat),t0.wt+i0<=i->pN inner s d m i t0=some (t,j)->t.wt+i0<=j:=by
 intro m
 induction m with
 |zero=>intro i0 i t0 t j _ h;cases h
 |succ m ih=>
  intro i0 i t0 t j hr h
  simp only[pN]at h
  split at h
  ·split at h
   ·cases h
   rename_i t2 j2 h2
   have:=y0 hb hin _ _ h2
   exact ih i0 j2 _ t j (by rw[Rx.rj];omega) h
  ·injection h with h;injection h with h1 h2;subst h1;subst h2;exact hr
theorem G2{s:List Int}(hb:Bytes s):∀ (n i d:Nat),Wo i (iV s n i d):=by
 intro n
 induction n with
 |zero=>intro i d t j h;cases h
 |succ n ih=>
  intro i d t j h
  simp only[iV,xN]at h
  split at h
  ·cases h
  rename_i t0 i0 h0
  have:=y0 hb ih _ _ h0
  exact G1 hb ih _ i i0 t0 t j (by omega) h
theorem Bi{s:List Int}(hb:Bytes s){t:Rx}(h:fk s=.ok t):t.wt<=s.length:=by
 unfold fk at h
 split at h
 ·cases h
 split at h
 ·cases h
 rename_i t2 i ho
 have h1:=G2 hb _ _ _ _ _ ho
 obtain⟨_,h2,_,_⟩:=iP hb _ _ _ (by omega) _ _ ho
 split at h
 ·cases h
 split at h
 ·cases h
 injection h with h
 subst h
 omega
theorem Rx.fe:∀ t:Rx,t.cL<=t.wt:=by
 intro t
 induction t with
 |eps=>simp[Rx.cL]
 |set S=>simp only[Rx.cL,Rx.wt];split <;> omega
 |cat a b iha ihb=>rw[Rx.ud];simp only[Rx.cL];omega
 |alt a b iha ihb=>rw[Rx.rj];simp only[Rx.cL];omega
 |rep k a ih=>rw[Rx.ue];simp only[Rx.cL];omega
end
noncomputable section
def Rx.lin:Rx->Bool
 |.eps=>true
 |.set _=>true
 |.cat a b=>a.lin&&b.lin
 |_=>false
def Rx.lf:Rx->Bool
 |.eps=>false
 |.set _=>true
 |.cat a _=>a.lf
 |.alt a _=>a.lf
 |.rep k a=>decide (k=6)&&a.lf
inductive Rx.Lq:Rx->Prop
 |rep {k:Int} {S:List Int} (hk:k≠6) (hS:o7 S):Rx.Lq (.rep k (.set S))
 |cat {a:Rx} {S:List Int} (h:Rx.Lq a):Rx.Lq (.cat a (.set S))
theorem rk:∀ t:Rx,t.wt<=t.cL->t.lf=true/\t.lin=true/\(t.pw=0->∃ S,o7 S/\t=.set S):=by
 intro t
 induction t with
 |eps=>intro h;rw[Rx.Jd]at h;simp[Rx.cL]at h
 |set S=>
  intro h
  simp only[Rx.wt,Rx.cL]at h
  split at h
  ·rename_i hS;exact⟨rfl,rfl,λ_=>⟨S,hS,rfl⟩⟩
  ·omega
 |cat a b iha ihb=>
  intro h
  rw[Rx.ud]at h
  simp only[Rx.cL]at h
  have h1:=a.fe
  have h2:=b.fe
  obtain⟨i1,i2,_⟩:=iha (by omega)
  obtain⟨j1,j2,_⟩:=ihb (by omega)
  exact⟨i1,by simp[Rx.lin,i2,j2],λh=>by simp[Rx.pw]at h⟩
 |alt a b iha ihb=>
  intro h
  rw[Rx.rj]at h
  simp only[Rx.cL]at h
  have h1:=a.fe
  have h2:=b.fe
  omega
 |rep k a ih=>
  intro h
  rw[Rx.ue]at h
  simp only[Rx.cL]at h
  have h1:=a.fe
  omega
theorem pW:∀ t:Rx,t.wt+t.cw<=t.cL+1->t.lin=true\/t.lf=true\/t.Lq:=by
 intro t
 induction t with
 |eps=>intro _;exact .inl rfl
 |set S=>intro _;exact .inl rfl
 |cat a b iha ihb=>
  intro h
  rw[Rx.ud,Rx.DX]at h
  simp only[Rx.cL]at h
  have h1:=a.fe
  have h2:=b.fe
  by_cases ha:a.wt<=a.cL
  ·exact .inr (.inl (rk a ha).1)
  ·obtain⟨_,j2,j3⟩:=rk b (by omega)
   obtain⟨S,hS,rfl⟩:=j3 (by omega)
   rcases iha (by omega)with i|i|i
   ·exact .inl (by simp[Rx.lin,i])
   ·exact .inr (.inl i)
   ·exact .inr (.inr (.cat i))
 |alt a b iha ihb=>
  intro h
  rw[Rx.rj,Rx.Jg]at h
  simp only[Rx.cL]at h
  have h1:=a.fe
  have h2:=b.fe
  omega
 |rep k a ih=>
  intro h
  rw[Rx.ue,Rx.Jf]at h
  simp only[Rx.cL]at h
  have h1:=a.fe
  obtain⟨i1,_,i3⟩:=rk a (by omega)
  obtain⟨S,hS,rfl⟩:=i3 (by omega)
  by_cases hk:k=6
  ·exact .inr (.inl (by simp[Rx.lf,hk]))
  ·exact .inr (.inr (.rep hk hS))
theorem Jh(t:Rx)(h:t.wt<=t.cL+1):t.lin=true\/t.lf=true\/t.Lq:=by
 cases t with
 |alt a b=>
  rw[Rx.rj]at h
  simp only[Rx.cL]at h
  have h1:=a.fe
  have h2:=b.fe
  exact .inr (.inl (rk a (by omega)).1)
 |eps=>exact pW _ (by simpa [Rx.cw]using h)
 |set S=>exact pW _ (by simpa [Rx.cw]using h)
 |cat a b=>exact pW _ (by simpa [Rx.cw]using h)
 |rep k a=>exact pW _ (by simpa [Rx.cw]using h)
def Rx.lvl:Rx->Nat->Nat->Nat
 |.set _,n,q=>if q=n then 0 else 1
 |.cat a b,n,q=>if q<n+2*a.len then a.lvl n q else if q<n+2*(a.len+b.len)then a.cL+b.lvl (n+2*a.len) q else if q=n+2*(a.len+b.len)then 0 else a.cL+b.cL
 |_,_,_=>0
theorem Rx.uf:∀ (t:Rx) (n:Nat),t.lvl n (t.fst n)=0:=by
 intro t n
 have:=t.bu
 cases t with
 |set S=>simp[Rx.lvl,Rx.fst,Rx.len]
 |cat a b=>
  have e:(Rx.cat a b).fst n=n+2*(a.len+b.len):=by simp only[Rx.fst,Rx.len];omega
  have ha:=a.bu
  rw[e,Rx.lvl,if_neg (by omega),if_neg (by omega),if_pos rfl]
 |_=>rfl
theorem Rx.za:∀ (t:Rx) (n:Nat),t.lin=true->t.lvl n (t.lst n)=t.cL:=by
 intro t n h
 have:=t.bu
 cases t with
 |set S=>simp[Rx.lvl,Rx.lst,Rx.len,Rx.cL]
 |eps=>rfl
 |cat a b=>
  have e:(Rx.cat a b).lst n=n+2*(a.len+b.len)+1:=by simp only[Rx.lst,Rx.len];omega
  have ha:=a.bu
  rw[e,Rx.lvl,if_neg (by omega),if_neg (by omega),if_neg (by omega),Rx.cL]
 |alt a b=>cases h
 |rep k a=>cases h
theorem Rx.wK:∀ (t:Rx) (n:Nat),t.lin=true->∀ e∈t.ap n,t.lvl n e.2.1=t.lvl n e.1+(if e.2.2.2=true then 0 else 1):=by
 intro t
 induction t with
 |eps=>intro n _ e he;simp[Rx.ap,fE]at he;subst he;simp[Rx.lvl]
 |set S=>intro n _ e he;simp[Rx.ap]at he;subst he;simp[Rx.lvl]
 |alt a b=>intro n h;cases h
 |rep k a=>intro n h;cases h
 |cat a b iha ihb=>
  intro n h e he
  simp only[Rx.lin,ag]at h
  have ha:=a.bu
  have hb:=b.bu
  simp only[Rx.ap,aC,aH,bP,or_false]at he
  rcases he with(he|he)|he|he|he
  ·have hi:=a.dj n e he
   simp only[Rx.lvl]
   rw[if_pos (by omega),if_pos (by omega),iha n h.1 e he]
  ·have hi:=b.dj _ e he
   simp only[Rx.lvl]
   rw[if_neg (by omega),if_pos (by omega),if_neg (by omega),if_pos (by omega),ihb _ h.2 e he]
   omega
  ·subst he
   have hi:=a.mM n
   have hz:=a.uf n
   show(Rx.cat a b).lvl n (a.fst n)=(Rx.cat a b).lvl n (n+2*(a.len+b.len))+0
   simp only[Rx.lvl]
   rw[if_pos (show a.fst n<n+2*a.len by omega),if_neg (by omega),if_neg (by omega),if_true,hz]
  ·subst he
   have hi:=a.jk n
   have hi2:=b.mM (n+2*a.len)
   have hz:=a.za n h.1
   have hz2:=b.uf (n+2*a.len)
   show(Rx.cat a b).lvl n (b.fst (n+2*a.len))=(Rx.cat a b).lvl n (a.lst n)+0
   simp only[Rx.lvl]
   rw[if_neg (show ¬b.fst (n+2*a.len)<n+2*a.len by omega),if_pos (by omega),if_pos (by omega),hz,hz2]
  ·subst he
   have hi2:=b.jk (n+2*a.len)
   have hz2:=b.za (n+2*a.len) h.2
   show(Rx.cat a b).lvl n (n+2*(a.len+b.len)+1)=(Rx.cat a b).lvl n (b.lst (n+2*a.len))+0
   simp only[Rx.lvl]
   rw[if_neg (by omega),if_neg (by omega),if_neg (by omega),if_neg (show ¬b.lst (n+2*a.len)<n+2*a.len by omega),if_pos (by omega),hz2]
   omega
theorem Rx.zb:∀ (t:Rx) (n:Nat),t.lin=true->∀ x∈eJ (t.ap n),0<t.lvl n x/\t.lvl n x<=t.cL/\∀ y∈eJ (t.ap n),t.lvl n x=t.lvl n y->x=y:=by
 intro t
 induction t with
 |eps=>intro n _ x hx;simp[Rx.ap,eJ,fE]at hx
 |set S=>
  intro n _ x hx
  simp[Rx.ap,eJ]at hx
  subst hx
  refine⟨by simp[Rx.lvl],by simp[Rx.lvl,Rx.cL],λy hy _=>?_⟩
  simp[Rx.ap,eJ]at hy
  exact hy.symm
 |alt a b=>intro n h;cases h
 |rep k a=>intro n h;cases h
 |cat a b iha ihb=>
  intro n h x hx
  simp only[Rx.lin,ag]at h
  have ha:=a.bu
  have hb:=b.bu
  have hin:∀ (t:Rx) (m x:Nat),x∈eJ (t.ap m)->m<=x/\x<m+2*t.len:=by
   intro t m x hx
   unfold eJ at hx
   obtain⟨e,he,rfl⟩:=iu.1 hx
   have:=t.dj m e (ou.1 he).1
   omega
  have hT:eJ ((Rx.cat a b).ap n)=eJ (a.ap n)++eJ (b.ap (n+2*a.len)):=by
   simp only[Rx.ap,gd]
   simp[eJ,fE]
  have la:∀ x,x∈eJ (a.ap n)->(Rx.cat a b).lvl n x=a.lvl n x:=λx hx=>by
   have:=hin a n x hx
   rw[Rx.lvl,if_pos (by omega)]
  have lb:∀ x,x∈eJ (b.ap (n+2*a.len))->(Rx.cat a b).lvl n x=a.cL+b.lvl (n+2*a.len) x:=λx hx=>by
   have:=hin b _ x hx
   rw[Rx.lvl,if_neg (by omega),if_pos (by omega)]
  rw[hT]at hx |-
  simp only[Rx.cL]
  rcases aC.1 hx with hx|hx
  ·obtain⟨q1,q2,q3⟩:=iha n h.1 x hx
   rw[la x hx]
   refine⟨q1,by omega,λy hy hxy=>?_⟩
   rcases aC.1 hy with hy|hy
   ·rw[la y hy]at hxy;exact q3 y hy hxy
   ·rw[lb y hy]at hxy
    have:=(ihb _ h.2 y hy).1
    omega
  ·obtain⟨q1,q2,q3⟩:=ihb _ h.2 x hx
   rw[lb x hx]
   refine⟨by omega,by omega,λy hy hxy=>?_⟩
   rcases aC.1 hy with hy|hy
   ·rw[la y hy]at hxy
    have:=(iha n h.1 y hy).2.1
    omega
   ·rw[lb y hy]at hxy;exact q3 y hy (by omega)
def Rx.pre:Rx->Nat->Nat->Bool
 |.eps,n,q=>decide (q=n)
 |.set _,n,q=>decide (q=n)
 |.cat a b,n,q=>decide (q=n+2*(a.len+b.len))||a.pre n q
 |.alt a b,n,q=>decide (q=n+2*(a.len+b.len))||a.pre n q
 |.rep k a,n,q=>decide (q=n+2*a.len)||(decide (k=6)&&a.pre n q)
theorem Rx.mN:∀ (t:Rx) (n q:Nat),t.pre n q=true->n<=q/\q<n+2*t.len:=by
 intro t
 induction t with
 |eps=>intro n q h;simp only[Rx.pre,decide_eq_true_eq]at h;simp only[Rx.len];omega
 |set S=>intro n q h;simp only[Rx.pre,decide_eq_true_eq]at h;simp only[Rx.len];omega
 |cat a b iha ihb=>
  intro n q h
  simp only[Rx.pre,aR,decide_eq_true_eq]at h
  simp only[Rx.len]
  rcases h with h|h
  ·omega
  ·have:=iha n q h;omega
 |alt a b iha ihb=>
  intro n q h
  simp only[Rx.pre,aR,decide_eq_true_eq]at h
  simp only[Rx.len]
  rcases h with h|h
  ·omega
  ·have:=iha n q h;omega
 |rep k a ih=>
  intro n q h
  simp only[Rx.pre,aR,ag,decide_eq_true_eq]at h
  simp only[Rx.len]
  rcases h with h|h
  ·omega
  ·have:=ih n q h.2;omega
theorem Rx.DY:∀ (t:Rx) (n:Nat),∀ e∈t.ap n,t.pre n e.2.1=true->e.2.2.2=true/\t.pre n e.1=true:=by
 intro t
 induction t with
 |eps=>intro n e he h;simp[Rx.ap,fE]at he;subst he;simp[Rx.pre]at h
 |set S=>intro n e he h;simp[Rx.ap]at he;subst he;simp[Rx.pre]at h
 |cat a b iha ihb=>
  intro n e he h
  have ha:=a.bu
  have hb:=b.bu
  simp only[Rx.ap,aC,aH,bP,or_false]at he
  simp only[Rx.pre,aR,decide_eq_true_eq]at h |-
  rcases he with(he|he)|he|he|he
  ·have hi:=a.dj n e he
   obtain⟨q1,q2⟩:=iha n e he (h.resolve_left (by omega))
   exact⟨q1,.inr q2⟩
  ·have hi:=b.dj _ e he
   rcases h with h|h
   ·omega
   ·have:=a.mN n _ h;omega
  ·subst he;exact⟨rfl,.inl rfl⟩
  ·subst he
   have hi:=b.mM (n+2*a.len)
   rcases h with h|h
   ·simp only[fE]at h;omega
   ·have:=a.mN n _ h;simp only[fE]at this;omega
  ·subst he
   rcases h with h|h
   ·simp only[fE]at h;omega
   ·have:=a.mN n _ h;simp only[fE]at this;omega
 |alt a b iha ihb=>
  intro n e he h
  have ha:=a.bu
  have hb:=b.bu
  simp only[Rx.ap,aC,aH,bP,or_false]at he
  simp only[Rx.pre,aR,decide_eq_true_eq]at h |-
  rcases he with(he|he)|he|he|he|he
  ·have hi:=a.dj n e he
   obtain⟨q1,q2⟩:=iha n e he (h.resolve_left (by omega))
   exact⟨q1,.inr q2⟩
  ·have hi:=b.dj _ e he
   rcases h with h|h
   ·omega
   ·have:=a.mN n _ h;omega
  ·subst he;exact⟨rfl,.inl rfl⟩
  ·subst he
   rcases h with h|h
   ·simp only[fE]at h;omega
   ·have:=a.mN n _ h;simp only[fE]at this;omega
  ·subst he;exact⟨rfl,.inl rfl⟩
  ·subst he
   rcases h with h|h
   ·simp only[fE]at h;omega
   ·have:=a.mN n _ h;simp only[fE]at this;omega
 |rep k a ih=>
  intro n e he h
  have ha:=a.bu
  simp only[Rx.ap,aC,aH,bP,or_false]at he
  simp only[Rx.pre,aR,ag,decide_eq_true_eq]at h |-
  rcases he with((he|he|he)|he)|he
  ·have hi:=a.dj n e he
   have h:=h.resolve_left (by omega)
   obtain⟨q1,q2⟩:=ih n e he h.2
   exact⟨q1,.inr ⟨h.1,q2⟩⟩
  ·subst he;exact⟨rfl,.inl rfl⟩
  ·subst he
   rcases h with h|h
   ·simp only[fE]at h;omega
   ·have:=a.mN n _ h.2;simp only[fE]at this;omega
  ·split at he
   ·simp at he
   ·rename_i hk
    simp only[eV]at he
    subst he
    rcases h with h|h
    ·have:=a.mM n;simp only[fE]at h;omega
    ·exact absurd h.1 hk
  ·split at he
   ·simp at he
   ·simp only[eV]at he
    subst he
    exact⟨rfl,.inl rfl⟩
theorem Rx.DZ:∀ (t:Rx) (n:Nat),t.lf=true->∃ r,eJ (t.ap n)=(n+1)::r/\t.pre n n=true/\∀ e∈t.ap n,e.2.2.2=false->e.2.1=n+1->e.1=n:=by
 intro t
 induction t with
 |eps=>intro n h;cases h
 |set S=>intro n _;exact⟨[],rfl,by simp[Rx.pre],λe he _ _=>by simp[Rx.ap]at he;subst he;rfl⟩
 |cat a b iha ihb=>
  intro n h
  have ha:=a.bu
  obtain⟨r,q1,q2,q3⟩:=iha n h
  refine⟨r++eJ (b.ap (n+2*a.len)),?_,by simp[Rx.pre,q2],λe he hf ht=>?_⟩
  ·simp only[Rx.ap,gd,q1];simp[eJ,fE]
  ·simp only[Rx.ap,aC,aH,bP,or_false]at he
   rcases he with(he|he)|he|he|he
   ·exact q3 e he hf ht
   ·have:=b.dj _ e he;omega
   all_goals (subst he;cases hf)
 |alt a b iha ihb=>
  intro n h
  have ha:=a.bu
  obtain⟨r,q1,q2,q3⟩:=iha n h
  refine⟨r++eJ (b.ap (n+2*a.len)),?_,by simp[Rx.pre,q2],λe he hf ht=>?_⟩
  ·simp only[Rx.ap,gd,q1];simp[eJ,fE]
  ·simp only[Rx.ap,aC,aH,bP,or_false]at he
   rcases he with(he|he)|he|he|he|he
   ·exact q3 e he hf ht
   ·have:=b.dj _ e he;omega
   all_goals (subst he;cases hf)
 |rep k a ih=>
  intro n h
  simp only[Rx.lf,ag,decide_eq_true_eq]at h
  obtain⟨rfl,h⟩:=h
  obtain⟨r,q1,q2,q3⟩:=ih n h
  refine⟨r,?_,by simp[Rx.pre,q2],λe he hf ht=>?_⟩
  ·simp only[Rx.ap,gd,q1];simp[eJ,fE]
  ·simp only[Rx.ap,aC,aH,bP,or_false]at he
   rcases he with((he|he|he)|he)|he
   ·exact q3 e he hf ht
   ·subst he;cases hf
   ·subst he;cases hf
   ·simp at he
   ·simp at he;subst he;cases hf
end
noncomputable section
inductive Rch(t:Rx):(Nat->Bool)->Prop
 |ini {g:Nat->Bool} (h:fO (t.ap 0) (λx=>decide (x=t.fst 0)) g):Rch t g
 |step {f g:Nat->Bool} {c:Nat} (hc:c<256) (hf:Rch t f) (h:fO (t.ap 0) (aS (t.ap 0) f c) g):Rch t g
theorem eH{E:List Ed}{f:Nat->Bool}{c x:Nat}:aS E f c x=true↔∃ e∈E,e.2.2.2=false/\f e.1=true/\hasB e.2.2.1 c=true/\x=e.2.1:=by
 unfold aS
 rw[fJ]
 simp only[ag,bq,decide_eq_true_eq]
theorem Rch.Ny{t:Rx}{g:Nat->Bool}(h:Rch t g):K2 (t.ap 0) (λx=>decide (x=t.fst 0)) g:=by
 cases h with
 |ini h=>exact .inl h
 |step _ _ h=>exact .inr ⟨_,_,h⟩
theorem Rch.lvl{t:Rx}(hl:t.lin=true){g:Nat->Bool}(h:Rch t g):∃ m,∀ q,g q=true->t.lvl 0 q=m:=by
 have clo:∀ m,ky (t.ap 0) (λq=>decide (t.lvl 0 q=m)):=by
  intro m e he hf h
  have:=t.wK 0 hl e he
  rw[hf]at this
  simp only[decide_eq_true_eq]at h |-
  simp at this
  omega
 induction h with
 |ini h=>
  refine⟨0,λq hq=>?_⟩
  have:=h.2.2 _ (clo 0) (λx hx=>by
   rw[decide_eq_true_eq]at hx
   subst hx
   simpa using t.uf 0) q hq
  simpa using this
 |step hc hf h ih=>
  obtain⟨m,ih⟩:=ih
  refine⟨m+1,λq hq=>?_⟩
  have:=h.2.2 _ (clo (m+1)) (λx hx=>by
   obtain⟨e,he,h1,h2,_,rfl⟩:=eH.1 hx
   have:=t.wK 0 hl e he
   rw[h1,ih _ h2]at this
   simpa using this) q hq
  simpa using this
theorem D1{t:Rx}(hl:t.lin=true)(l:List (Nat->Bool))(hn:l.Nodup)(h:∀ g∈l,Rch t g):l.length<=t.cL+3:=by
 refine tT (λ(g:Nat->Bool) (k:Nat)=>(k=0/\fO (t.ap 0) (λx=>decide (x=t.fst 0)) g)\/(k=1/\fO (t.ap 0) (λ_=>false) g)\/
  (∃ f x,fO (t.ap 0) f g/\x∈eJ (t.ap 0)/\(∀ y,f y=true↔y=x)/\k=t.lvl 0 x+2)) ?_ (t.cL+3) l hn ?_
 ·rintro a b k (⟨rfl,h1⟩|⟨rfl,h1⟩|⟨f,x,h1,h2,h3,rfl⟩) (⟨e,g1⟩|⟨e,g1⟩|⟨f',x',g1,g2,g3,e⟩)
  ·exact dZ h1 g1
  ·omega
  ·omega
  ·omega
  ·exact dZ h1 g1
  ·omega
  ·omega
  ·omega
  ·have:x=x':=(t.zb 0 hl x h2).2.2 x' g2 (by omega)
   subst this
   have:f=f':=by
    funext y
    rw[cY,h3,g3]
   rw[this]at h1
   exact dZ h1 g1
 ·intro g hg
  have hr:=h g hg
  cases hr with
  |ini h=>exact⟨0,by omega,.inl ⟨rfl,h⟩⟩
  | @step f g c hc hf h=>
   by_cases hx:∃ x,aS (t.ap 0) f c x=true
   ·obtain⟨x,hx⟩:=hx
    have hxt:=mb hx
    have hb:=t.zb 0 hl x hxt
    refine⟨t.lvl 0 x+2,by omega,.inr (.inr ⟨_,x,h,hxt,λy=>⟨λhy=>?_,λe=>e ▸ hx⟩,rfl⟩)⟩
    obtain⟨m,hm⟩:=(Rch.step hc hf h).lvl hl
    have e1:=hm _ (h.1 _ hx)
    have e2:=hm _ (h.1 _ hy)
    exact(hb.2.2 y (mb hy) (by omega)).symm
   ·refine⟨1,by omega,.inr (.inl ⟨rfl,?_⟩)⟩
    have:aS (t.ap 0) f c=λ_=>false:=by
     funext x
     cases hs:aS (t.ap 0) f c x
     ·rfl
     ·exact absurd ⟨x,hs⟩ hx
    rw[this]at h
    exact h
theorem wL{t:Rx}{f g:Nat->Bool}{c:Nat}(h:fO (t.ap 0) (aS (t.ap 0) f c) g):∀ q,t.pre 0 q=true->g q=false:=by
 intro q hq
 have:=h.2.2 (λq=>!t.pre 0 q) (λe he hf hp=>by
  simp only[bq]at hp |-
  cases hc:t.pre 0 e.2.1
  ·rfl
  ·rw[(t.DY 0 e he hc).2]at hp;cases hp) (λx hx=>by
  obtain⟨e,he,h1,_,_,rfl⟩:=eH.1 hx
  simp only[bq]
  cases hc:t.pre 0 e.2.1
  ·rfl
  ·rw[(t.DY 0 e he hc).1]at h1;cases h1) q
 cases hg:g q
 ·rfl
 ·have:=this hg
  simp[hq]at this
theorem K5{t:Rx}(hl:t.lf=true)(l:List (Nat->Bool))(hn:l.Nodup)(h:∀ g∈l,Rch t g):l.length<=257+2 ^ (t.cL-1):=by
 obtain⟨r,q1,q2,q3⟩:=t.DZ 0 hl
 have hrl:r.length=t.cL-1:=by
  have:=ri t 0
  rw[q1]at this
  simp at this
  omega
 refine tT (λ(g:Nat->Bool) (k:Nat)=>(k=0/\fO (t.ap 0) (λx=>decide (x=t.fst 0)) g)\/(∃ c f,c<256/\fO (t.ap 0) (λx=>decide (x=t.fst 0)) f/\fO (t.ap 0) (aS (t.ap 0) f c) g/\k=1+c)\/
  (∃ f c,fO (t.ap 0) (aS (t.ap 0) f c) g/\aS (t.ap 0) f c 1=false/\k=257+dg (r.map (aS (t.ap 0) f c)))) ?_ (257+2 ^ (t.cL-1)) l hn ?_
 ·rintro a b k (⟨rfl,h1⟩|⟨c,f,hc,h0,h1,rfl⟩|⟨f,c,h1,h2,rfl⟩) (⟨e,g1⟩|⟨c',f',hc',g0,g1,e⟩|⟨f',c',g1,g2,e⟩)
  ·exact dZ h1 g1
  ·omega
  ·omega
  ·omega
  ·have:c=c':=by omega
   subst this
   rw[dZ h0 g0]at h1
   exact dZ h1 g1
  ·omega
  ·omega
  ·omega
  ·have hb:=l7 (r.map (aS (t.ap 0) f c)) (r.map (aS (t.ap 0) f' c')) (by simp) (by omega)
   have:onT (t.ap 0) (aS (t.ap 0) f c)=onT (t.ap 0) (aS (t.ap 0) f' c'):=by
    unfold onT
    rw[q1]
    simp only[eF,dF]
    rw[h2,g2,hb]
   rw[o6 this]at h1
   exact dZ h1 g1
 ·intro g hg
  have hr:=h g hg
  cases hr with
  |ini h=>exact⟨0,by have:=bT (2 ^ (t.cL-1));omega,.inl ⟨rfl,h⟩⟩
  | @step f g c hc hf h=>
   cases hf with
   |ini h0=>exact⟨1+c,by have:=bT (2 ^ (t.cL-1));omega,.inr (.inl ⟨c,f,hc,h0,h,rfl⟩)⟩
   | @step f0 f c0 hc0 hf0 h0=>
    have hb:=jU (r.map (aS (t.ap 0) f c))
    rw[bG,hrl]at hb
    refine⟨_,?_,.inr (.inr ⟨f,c,h,?_,rfl⟩)⟩
    ·omega
    ·cases hs:aS (t.ap 0) f c 1
     ·rfl
     ·obtain⟨e,he,h1,h2,_,h3⟩:=eH.1 hs
      rw[q3 e he h1 (by omega),wL h0 0 q2]at h2
      cases h2
def Bq(k:Int)(S0 S1 S2:List Int):Rx:=.cat (.cat (.rep k (.set S0)) (.set S1)) (.set S2)
theorem ft{k:Int}(hk:k≠6){S0 S1 S2:List Int}{e:Ed}:e∈(Bq k S0 S1 S2).ap 0↔e=(0,1,S0,false)\/e=fE 2 0\/e=fE 1 3\/e=fE 1 0\/(k≠5/\e=fE 2 3)\/e=(4,5,S1,false)\/e=fE 6 2\/e=fE 3 4\/e=fE 5 7\/e=(8,9,S2,false)\/e=fE 10 6\/e=fE 7 8\/e=fE 9 11:=by
 by_cases h5:k=5
 ·simp[Bq,Rx.ap,Rx.len,Rx.fst,Rx.lst,hk,h5,or_assoc]
 ·simp[Bq,Rx.ap,Rx.len,Rx.fst,Rx.lst,hk,h5,or_assoc]
structure LqB(t:Rx)(k:Int)(S0 S1 S2:List Int):Prop where
 hk:k≠6
 sm:o7 S0
 tg:∃ r,eJ (t.ap 0)=1::5::9::r
 ed:∀ e∈t.ap 0,e.2.1<12->e.2.1≠10->e∈(Bq k S0 S1 S2).ap 0
 sub:∀ e∈(Bq k S0 S1 S2).ap 0,e∈t.ap 0
 len:6<=t.len
 p2:t.pre 0 2=true
 c8:t.cl 0 8=false
 nl:t.null=false
theorem Lq.bot{t:Rx}(h:t.Lq)(h3:3<=t.cL):∃ k S0 S1 S2,LqB t k S0 S1 S2:=by
 induction h with
 |rep hk hS=>simp[Rx.cL]at h3
 | @cat a S ha ih=>
  by_cases h3':3<=a.cL
  ·obtain⟨k,S0,S1,S2,b⟩:=ih h3'
   obtain⟨r,hr⟩:=b.tg
   have hl:=b.len
   refine⟨k,S0,S1,S2,b.hk,b.sm,⟨r++eJ ((Rx.set S).ap (0+2*a.len)),?_⟩,λe he h1 h2=>?_,λe he=>?_,?_,?_,?_,?_⟩
   ·simp only[Rx.ap,gd,hr];simp[eJ,fE]
   ·simp only[Rx.ap,aC,aH,bP,or_false]at he
    rcases he with(he|he)|he|he|he
    ·exact b.ed e he h1 h2
    ·subst he;simp at h1;omega
    ·subst he;simp only[fE,Rx.fst]at h1 h2;omega
    ·subst he;simp only[fE,Rx.fst,Rx.len]at h1 h2;omega
    ·subst he;simp only[fE,Rx.len]at h1 h2;omega
   ·simp only[Rx.ap,aC]
    exact .inl (.inl (b.sub e he))
   ·simp only[Rx.len];omega
   ·simp only[Rx.pre,b.p2,Bool.or_true]
   ·simp only[Rx.cl,b.c8,b.nl,Rx.len,Rx.null]
    simp
    omega
   ·simp[Rx.null]
  ·cases ha with
   |rep hk hS=>simp[Rx.cL]at h3
   | @cat a' S' ha'=>
    cases ha' with
    | @rep k S0 hk hS=>
     refine⟨k,S0,S',S,hk,hS,⟨[],?_⟩,λe he _ _=>he,λe he=>he,by simp[Rx.len],by simp[Rx.pre,Rx.len],by simp[Rx.cl,Rx.len,Rx.null],by simp[Rx.null]⟩
     simp only[Rx.ap,gd]
     by_cases h5:k=5 <;> simp[eJ,fE,Rx.len,hk,h5]
    |cat h=>
     exfalso
     cases h <;> simp[Rx.cL]at h3' h3 <;> omega
section
variable {t:Rx} {k:Int} {S0 S1 S2:List Int}
theorem LqB.at1(b:LqB t k S0 S1 S2){h:Nat->Bool}{c:Nat}(hs:aS (t.ap 0) h c 1=true):h 0=true/\hasB S0 c=true:=by
 obtain⟨e,he,h1,h2,h3,h4⟩:=eH.1 hs
 have:=b.ed e he (by omega) (by omega)
 rw[ft b.hk]at this
 rcases this with rfl|rfl|rfl|rfl|⟨_,rfl⟩|rfl|rfl|rfl|rfl|rfl|rfl|rfl|rfl <;> simp[fE]at h1 h4
 exact⟨h2,h3⟩
theorem LqB.at5(b:LqB t k S0 S1 S2){h:Nat->Bool}{c:Nat}(hs:aS (t.ap 0) h c 5=true):h 4=true/\hasB S1 c=true:=by
 obtain⟨e,he,h1,h2,h3,h4⟩:=eH.1 hs
 have:=b.ed e he (by omega) (by omega)
 rw[ft b.hk]at this
 rcases this with rfl|rfl|rfl|rfl|⟨_,rfl⟩|rfl|rfl|rfl|rfl|rfl|rfl|rfl|rfl <;> simp[fE]at h1 h4
 exact⟨h2,h3⟩
theorem LqB.at9(b:LqB t k S0 S1 S2){h:Nat->Bool}{c:Nat}(hs:aS (t.ap 0) h c 9=true):h 8=true:=by
 obtain⟨e,he,h1,h2,h3,h4⟩:=eH.1 hs
 have:=b.ed e he (by omega) (by omega)
 rw[ft b.hk]at this
 rcases this with rfl|rfl|rfl|rfl|⟨_,rfl⟩|rfl|rfl|rfl|rfl|rfl|rfl|rfl|rfl <;> simp[fE]at h1 h4
 exact h2
theorem LqB.no(b:LqB t k S0 S1 S2){h:Nat->Bool}{c q:Nat}(hq:q=0\/q=3\/q=4\/q=7\/q=8):aS (t.ap 0) h c q=false:=by
 cases hs:aS (t.ap 0) h c q
 ·rfl
 ·exfalso
  obtain⟨e,he,h1,h2,h3,h4⟩:=eH.1 hs
  have:=b.ed e he (by omega) (by omega)
  rw[ft b.hk]at this
  rcases this with rfl|rfl|rfl|rfl|⟨_,rfl⟩|rfl|rfl|rfl|rfl|rfl|rfl|rfl|rfl <;> simp[fE]at h1 h4 <;> omega
theorem LqB.free(b:LqB t k S0 S1 S2){e:Ed}(he:e∈t.ap 0)(hf:e.2.2.2=true)(hq:e.2.1<10):e.2.1=0/\(e.1=1\/e.1=2)\/e.2.1=3/\(e.1=1\/e.1=2)\/e.2.1=2\/e.2.1=6\/e.2.1=4/\e.1=3\/e.2.1=7/\e.1=5\/e.2.1=8/\e.1=7:=by
 have:=b.ed e he (by omega) (by omega)
 rw[ft b.hk]at this
 rcases this with rfl|rfl|rfl|rfl|⟨_,rfl⟩|rfl|rfl|rfl|rfl|rfl|rfl|rfl|rfl <;> simp[fE]at hf hq |-
theorem LqB.r8(b:LqB t k S0 S1 S2){h f:Nat->Bool}{c:Nat}(hc:fO (t.ap 0) (aS (t.ap 0) f c) h)(h8:h 8=true):aS (t.ap 0) f c 5=true:=by
 cases h5:aS (t.ap 0) f c 5
 ·exfalso
  have:=hc.2.2 (λq=>!(decide (q=5)||(decide (q=7)||decide (q=8)))) (λe he hf hd=>by
   cases hx:(decide (e.2.1=5)||(decide (e.2.1=7)||decide (e.2.1=8)))
   ·show(!_)=true
    rw[hx];rfl
   ·exfalso
    simp only[aR,decide_eq_true_eq]at hx
    have:=b.free he hf (by omega)
    simp at hd
    omega) (λx hx=>by
   cases hy:(decide (x=5)||(decide (x=7)||decide (x=8)))
   ·show(!_)=true
    rw[hy];rfl
   ·exfalso
    simp only[aR,decide_eq_true_eq]at hy
    rcases hy with rfl|rfl|rfl
    ·rw[h5]at hx;cases hx
    ·rw[b.no (by omega)]at hx;cases hx
    ·rw[b.no (by omega)]at hx;cases hx) 8 h8
  simp at this
 ·rfl
theorem LqB.r1(b:LqB t k S0 S1 S2){h f:Nat->Bool}{c:Nat}(hc:fO (t.ap 0) (aS (t.ap 0) f c) h)(h8:h 4=true\/h 0=true):aS (t.ap 0) f c 1=true:=by
 cases h5:aS (t.ap 0) f c 1
 ·exfalso
  have hp:=wL hc 2 b.p2
  have key:=hc.2.2 (λq=>h q&&!(decide (q=1)||(decide (q=3)||(decide (q=4)||decide (q=0))))) (λe he hf hd=>by
   simp only[ag]at hd |-
   refine⟨hc.2.1 e he hf hd.1,?_⟩
   cases hx:(decide (e.2.1=1)||(decide (e.2.1=3)||(decide (e.2.1=4)||decide (e.2.1=0))))
   ·rfl
   ·exfalso
    simp only[aR,decide_eq_true_eq]at hx
    have:=b.free he hf (by omega)
    have h2:e.1≠2:=λe2=>by have h1:=hd.1;rw[e2,hp]at h1;cases h1
    have h3:=hd.2
    simp at h3
    omega) (λx hx=>by
   simp only[ag]
   refine⟨hc.1 x hx,?_⟩
   cases hy:(decide (x=1)||(decide (x=3)||(decide (x=4)||decide (x=0))))
   ·rfl
   ·exfalso
    simp only[aR,decide_eq_true_eq]at hy
    rcases hy with rfl|rfl|rfl|rfl
    ·rw[h5]at hx;cases hx
    ·rw[b.no (by omega)]at hx;cases hx
    ·rw[b.no (by omega)]at hx;cases hx
    ·rw[b.no (by omega)]at hx;cases hx)
  rcases h8 with h8|h8
  ·have:=key 4 h8;simp at this
  ·have:=key 0 h8;simp at this
 ·rfl
theorem LqB.zd(b:LqB t k S0 S1 S2){h:Nat->Bool}(hr:Rch t h)(h8:h 8=true):∃ f c,c<256/\fO (t.ap 0) (aS (t.ap 0) f c) h:=by
 cases hr with
 |ini hi=>
  exfalso
  have:=hi.2.2 (t.cl 0) (λe he hf hp=>t.yG 0 e he hf hp) (λx hx=>by
   rw[decide_eq_true_eq]at hx
   rw[hx];exact t.lv 0) 8 h8
  rw[b.c8]at this
  cases this
 |step hc _ hi=>exact⟨_,_,hc,hi⟩
theorem LqB.X(b:LqB t k S0 S1 S2){h:Nat->Bool}(hr:Rch t h){c:Nat}(hc:c<256)(h1:aS (t.ap 0) h c 1=false)(h5:aS (t.ap 0) h c 5=true)(h9:aS (t.ap 0) h c 9=true):hasB S0 c=false:=by
 obtain⟨f,c',hc',hi⟩:=b.zd hr (b.at9 h9)
 have f1:=b.r1 hi (.inl (b.at5 h5).1)
 have g1:=hi.1 _ f1
 have g0:=hi.2.1 (fE 1 0) (b.sub _ ((ft b.hk).2 (by simp))) rfl g1
 cases hs:hasB S0 c
 ·rfl
 ·have:aS (t.ap 0) h c 1=true:=eH.2 ⟨(0,1,S0,false),b.sub _ ((ft b.hk).2 (by simp)),rfl,g0,hs,rfl⟩
  rw[h1]at this;cases this
theorem LqB.Y(b:LqB t k S0 S1 S2){h:Nat->Bool}(hr:Rch t h){c:Nat}(hc:c<256)(h1:aS (t.ap 0) h c 1=true)(h5:aS (t.ap 0) h c 5=false)(h9:aS (t.ap 0) h c 9=true):∃ d d',d<256/\d' < 256/\d≠d'/\hasB S0 d=true/\hasB S0 d'=true:=by
 obtain⟨f,c',hc',hi⟩:=b.zd hr (b.at9 h9)
 have f5:=b.r8 hi (b.at9 h9)
 have f1:=b.r1 hi (.inr (b.at1 h1).1)
 have g1:=hi.1 _ f1
 have g3:=hi.2.1 (fE 1 3) (b.sub _ ((ft b.hk).2 (by simp))) rfl g1
 have g4:=hi.2.1 (fE 3 4) (b.sub _ ((ft b.hk).2 (by simp))) rfl g3
 refine⟨c,c',hc,hc',?_,(b.at1 h1).2,(b.at1 f1).2⟩
 rintro rfl
 have:aS (t.ap 0) h c 5=true:=eH.2 ⟨(4,5,S1,false),b.sub _ ((ft b.hk).2 (by simp)),rfl,g4,(b.at5 f5).2,rfl⟩
 rw[h5]at this;cases this
theorem LqB.G3(b:LqB t k S0 S1 S2){d d' c:Nat}(hc:c<256)(hX:hasB S0 c=false)(hd:d<256)(hd':d' < 256)(hne:d≠d')(h1:hasB S0 d=true)(h2:hasB S0 d'=true):False:=by
 rcases b.sm with h|⟨v,h⟩
 ·rw[h,nO _ hc]at hX;cases hX
 ·rw[h,nO _ hd]at h1
  rw[h,nO _ hd']at h2
  unfold oW at h1 h2
  simp only[decide_eq_true_eq]at h1 h2
  omega
theorem D2{E:List Ed}{f0:Nat->Bool}{r:List Nat}(hr:eJ E=1::5::9::r)(x0 x1 x2:Bool)(l:List (Nat->Bool))(hn:l.Nodup)(h:∀ g∈l,fO E f0 g\/∃ f c,fO E (aS E f c) g/\¬(aS E f c 1=x0/\aS E f c 5=x1/\aS E f c 9=x2)):l.length<=1+7*2 ^ r.length:=by
 have code:∀ (p v:Nat),v % 8≠p->p<8->(if v % 8<p then v % 8 else v % 8-1)<7:=by intro p v h1 h2;split <;> omega
 refine tT (λ(g:Nat->Bool) (k:Nat)=>(k=0/\fO E f0 g)\/(∃ f c,fO E (aS E f c) g/\dg (onT E (aS E f c)) % 8≠dg [x0,x1,x2]/\
  k=1+(7*(dg (onT E (aS E f c)) / 8)+(if dg (onT E (aS E f c)) % 8<dg [x0,x1,x2]then dg (onT E (aS E f c)) % 8 else dg (onT E (aS E f c)) % 8-1)))) ?_ (1+7*2 ^ r.length) l hn ?_
 ·have hp:dg [x0,x1,x2]<8:=jU [x0,x1,x2]
  rintro a b k (⟨rfl,h1⟩|⟨f,c,h1,h2,rfl⟩) (⟨e,g1⟩|⟨f',c',g1,g2,e⟩)
  ·exact dZ h1 g1
  ·omega
  ·omega
  ·have hb:dg (onT E (aS E f c))=dg (onT E (aS E f' c')):=by
    generalize dg (onT E (aS E f c))=u at *
    generalize dg (onT E (aS E f' c'))=v at *
    generalize dg [x0,x1,x2]=p at *
    have c1:=code p u h2 hp
    have c2:=code p v g2 hp
    have e1:u / 8=v / 8:=by omega
    have e2:u % 8=v % 8:=by
     split at e <;> split at e <;> omega
    omega
   rw[o6 (l7 _ _ (by rw[nQ,nQ]) hb)]at h1
   exact dZ h1 g1
 ·intro g hg
  rcases h g hg with h|⟨f,c,h1,h2⟩
  ·exact⟨0,by omega,.inl ⟨rfl,h⟩⟩
  ·have hp:dg [x0,x1,x2]<8:=jU [x0,x1,x2]
   have hv:dg (onT E (aS E f c))=dg [aS E f c 1,aS E f c 5,aS E f c 9]+8*dg (r.map (aS E f c)):=by
    unfold onT
    rw[hr]
    simp only[eF,dg]
    omega
   have h3:dg [aS E f c 1,aS E f c 5,aS E f c 9]<8:=jU [aS E f c 1,aS E f c 5,aS E f c 9]
   have hm:dg (onT E (aS E f c)) % 8≠dg [x0,x1,x2]:=by
    intro e
    have e3:dg [aS E f c 1,aS E f c 5,aS E f c 9]=dg [x0,x1,x2]:=by omega
    have:=l7 [aS E f c 1,aS E f c 5,aS E f c 9] [x0,x1,x2] rfl e3
    injection this with a1 a2
    injection a2 with a2 a3
    injection a3 with a3
    exact h2 ⟨a1,a2,a3⟩
   have hrl:=jU (r.map (aS E f c))
   rw[bG]at hrl
   have hc:=code _ _ hm hp
   refine⟨_,?_,.inr ⟨f,c,h1,hm,rfl⟩⟩
   omega
theorem K6(b:LqB t k S0 S1 S2)(l:List (Nat->Bool))(hn:l.Nodup)(h:∀ g∈l,Rch t g):l.length<=1+7*2 ^ (t.cL-3):=by
 obtain⟨r,hr⟩:=b.tg
 have hrl:r.length=t.cL-3:=by
  have:=ri t 0
  rw[hr]at this
  simp at this
  omega
 rw[<-hrl]
 by_cases hX:∃ c,c<256/\hasB S0 c=false
 ·obtain⟨c0,hc0,hX⟩:=hX
  refine D2 (f0:=λx=>decide (x=t.fst 0)) hr true false true l hn (λg hg=>?_)
  have hr:=h g hg
  cases hr with
  |ini h=>exact .inl h
  | @step f g c hc hf h=>
   refine .inr ⟨f,c,h,λ⟨a1,a2,a3⟩=>?_⟩
   obtain⟨d,d',q1,q2,q3,q4,q5⟩:=b.Y hf hc a1 a2 a3
   exact b.G3 hc0 hX q1 q2 q3 q4 q5
 ·refine D2 (f0:=λx=>decide (x=t.fst 0)) hr false true true l hn (λg hg=>?_)
  have hr:=h g hg
  cases hr with
  |ini h=>exact .inl h
  | @step f g c hc hf h=>
   refine .inr ⟨f,c,h,λ⟨a1,a2,a3⟩=>hX ⟨c,hc,b.X hf hc a1 a2 a3⟩⟩
end
theorem Bj{t:Rx}(hw:t.wt<=12)(l:List (Nat->Bool))(hn:l.Nodup)(h:∀ g∈l,Rch t g):l.length<=2000:=by
 have ho:=t.fe
 rcases av t.cL 11 with h10|h11
 ·have:=GX (E:=t.ap 0) l hn (λg hg=>(h g hg).Ny)
  rw[ri]at this
  have h2:2 ^ t.cL<=2 ^ 10:=oc (by omega) (by omega)
  omega
 ·rcases av t.cL 12 with h12|h12
  ·have h1:t.cL=11:=by omega
   rcases Jh t (by omega)with hl|hl|hl
   ·have:=D1 hl l hn h;omega
   ·have:=K5 hl l hn h
    rw[h1]at this
    omega
   ·obtain⟨k,S0,S1,S2,b⟩:=Lq.bot hl (by omega)
    have:=K6 b l hn h
    rw[h1]at this
    omega
  ·have:=D1 (rk t (by omega)).2.1 l hn h
   omega
end
noncomputable section
theorem D3(d)(q:Int):FX N0 (d,(q,([],())))=some ((q,()),()):=by
 unfold FX
 refine ba (λm x r=>x=((),(q,((0:Int),())))/\r=some ((q,()),())) ?_ N0 0 _ _ (by unfold N0;omega) ⟨rfl,rfl⟩
 rintro m x r ⟨rfl,rfl⟩ k hk
 rfl
theorem Bk{d}{v:Int}(h:d.2.2[0]?=some v):FY N0 (d,(0,()))=some ((v,()),()):=by
 have hl:0<d.2.2.length:=by
  rcases av 0 d.2.2.length with h2|h2
  ·exact h2
  ·rw[br h2]at h;cases h
 have g:d.2.2[((0:Int)).toNat]?=some v:=h
 unfold FY
 simp only
 refine aQ ((),(false,())) (λK=>?_) ?_
 ·rw[show decide ((0:Int)<0)=false from rfl,cond_false,decide_eq_false (show ¬((d.2.2.length:Nat):Int)<=0 by omega)]
 ·simp only
  rw[cond_false,if_pos z0,g]
theorem D4{d}{v:Int}(h:d.2.2[0]?=some v):FZ N0 (d,([],()))=some ((v,()),()):=by
 unfold FZ
 simp only
 rw[aa (D3 d 0)]
 simp only
 rw[aa (Bk h)]
end
noncomputable section
theorem mO{s:List Int}{e:Int}(h:fk s=.error e):e=5\/e=6:=by
 unfold fk at h
 split at h
 ·injection h with h;omega
 split at h
 ·injection h with h;omega
 split at h
 ·injection h with h;omega
 split at h
 ·injection h with h;omega
 ·cases h
def Nz:List Int×(List (List Int)×List Int):=(List.replicate 256 0,([],[]))
theorem G4{s:List Int}(hb:Bytes s)(hsm:s.length<=maxLen){e:Int}(h:fk s=.error e):p68 N0 (s,())=some ((Nz,(e,())),()):=by
 have he:=mO h
 unfold p68
 simp only
 rw[aa (DD hb hsm),h]
 simp only[DC]
 rcases he with rfl|rfl <;> rfl
theorem Ji{s:List Int}(hb:Bytes s)(hsm:s.length<=maxLen){t:Rx}(h:fk s=.ok t){d}{c:Int}(hd:C4 N0 (nfT t,())=some ((d,(c,())),())):p68 N0 (s,())=some ((d,(c,())),()):=by
 obtain⟨h1,h2,h3⟩:=o3 hb h
 unfold p68
 simp only
 rw[aa (DD hb hsm),h]
 simp only[DC]
 rw[decide_true,az,cond_false,aa (Jb h1 h2)]
 simp only
 rw[decide_true,az,cond_false,aa hd]
def mkJ(n j:Nat):List Int:=(List.range n).map λq=>if q<j then -1 else 0
theorem jg(n j:Nat):(mkJ n j).length=n:=by simp[mkJ]
theorem mc{n:Nat}(j:Nat){i:Nat}(h:i<n):(mkJ n j)[i]?=some (if i<j then -1 else 0):=by
 unfold mkJ
 rw[cn,gn h]
 rfl
theorem G5{n j:Nat}(h:j<n):(mkJ n j).set j (-1)=mkJ n (j+1):=by
 apply dO
 intro i
 rw[jx]
 by_cases hi:i<n
 ·rw[mc j hi,mc (j+1) hi]
  by_cases e:j=i
  ·subst e
   rw[if_pos rfl,if_pos (by rw[jg];exact h),if_pos (by omega)]
  ·rw[if_neg e]
   by_cases h2:i<j
   ·rw[if_pos h2,if_pos (by omega)]
   ·rw[if_neg h2,if_neg (by omega)]
 ·have e1:(mkJ n (j+1))[i]?=none:=br (by rw[jg];omega)
  have e2:(mkJ n j)[i]?=none:=br (by rw[jg];omega)
  rw[e1,e2,if_neg (by omega)]
theorem D5{n last:Nat}(h:last<n):(mkJ n n).set last 0=mkL n last:=by
 apply dO
 intro i
 rw[jx]
 by_cases hi:i<n
 ·rw[mc n hi,yY last hi]
  by_cases e:last=i
  ·subst e
   rw[if_pos rfl,if_pos (by rw[jg];exact h),if_pos rfl]
  ·rw[if_neg e,if_pos hi,if_neg (λh=>e h.symm)]
 ·have e1:(mkL n last)[i]?=none:=br (by rw[yX];omega)
  have e2:(mkJ n n)[i]?=none:=br (by rw[jg];omega)
  rw[e1,e2,if_neg (by omega)]
theorem D6(n:Nat):List.replicate n (0:Int)=mkJ n 0:=by
 apply dO
 intro i
 by_cases hi:i<n
 ·rw[mc 0 hi,jt,if_pos hi,if_neg (by omega)]
 ·rw[br (by rw[gk];omega),br (by rw[jg];omega)]
theorem G6{t:Rx}(hl:t.len<=400){d}{c:Int}(hd:p63 N0 (nfT t,(mkL (2*t.len) (t.lst 0),()))=some ((d,(c,())),())):C4 N0 (nfT t,())=some ((d,(c,())),()):=by
 have NH:=t.jk 0
 have hn8:2*t.len<=800:=by omega
 have hN:(nfT t).1=((2*t.len:Nat):Int):=rfl
 have hL:(nfT t).2.2.2=((t.lst 0:Nat):Int):=rfl
 unfold C4
 simp only
 rw[aa (wF hl)]
 simp only
 rw[az,cond_false]
 simp only[hN,hL]
 generalize 2*t.len=n at *
 generalize t.lst 0=last at *
 have hln:last<n:=by omega
 rw[if_pos ⟨by omega,by omega⟩,if_pos (by rw[af];omega),af,D6]
 generalize (List.replicate 256 (0:Int),(([]:List (List Int)),([]:List Int)))=Z
 refine ba (λm x q=>∃ j:Nat,x=((Z,(mkJ n j,())),((j:Int),()))/\m+j=n/\q=some ((d,(c,())),())) ?_ N0 n _ _ (by unfold N0;omega) ⟨0,rfl,rfl,rfl⟩
 rintro m x q ⟨j,rfl,hm,rfl⟩ k hk
 simp only
 rcases av j n with hj|hj
 ·have n0:(0:Int)<=(j:Int):=by omega
  rw[decide_eq_true (show(j:Int)<(((mkJ n 0).length:Nat):Int) by rw[jg];omega),cond_true,if_pos n0,af,mc j hj]
  simp only
  rw[if_pos n0]
  rw[G5 hj,cE (by omega)]
  exact hk (m-1) _ _ (by omega) ⟨j+1,rfl,by omega,rfl⟩
 ·have:j=n:=by omega
  subst this
  have n0:(0:Int)<=(last:Int):=by omega
  rw[decide_eq_false (show ¬(j:Int)<(((mkJ j 0).length:Nat):Int) by rw[jg];omega),cond_false,if_pos n0,af,mc j hln]
  simp only
  rw[if_pos n0]
  rw[D5 hln,aa hd]
end
noncomputable section
abbrev KM:=List (List Int×Int)
def eqK:List Int->List Int->Bool:=λa b=>decide (a=b)
theorem D7(k k':List Int)(v:Int):∀ x:KM,gy eqK k (fB eqK k' v x)=(decide (k=k')||gy eqK k x):=by
 intro x
 induction x with
 |nil=>simp[fB,gy,eqK]
 |cons p r ih=>
  simp only[fB]
  by_cases e:k'=p.1
  ·have:eqK k' p.1=true:=decide_eq_true e
   rw[this,cond_true]
   simp only[gy]
   rw[<-e]
   by_cases e2:k=k'
   ·rw[show eqK k k'=true from decide_eq_true e2,decide_eq_true e2];rfl
   ·rw[show eqK k k'=false from decide_eq_false e2,decide_eq_false e2];rfl
  ·have:eqK k' p.1=false:=decide_eq_false e
   rw[this,cond_false]
   simp only[gy]
   by_cases e2:k=p.1
   ·rw[show eqK k p.1=true from decide_eq_true e2,cond_true,cond_true,Bool.or_true]
   ·rw[show eqK k p.1=false from decide_eq_false e2,cond_false,cond_false,ih]
def Sup(n:Nat)(g:Nat->Bool):Prop:=∀ q,g q=true->q<n
theorem Sup.ext{n:Nat}{g g':Nat->Bool}(h:Sup n g)(h':Sup n g')(he:∀ i,i<n->g i=g' i):g=g':=by
 funext q
 by_cases hq:q<n
 ·exact he q hq
 ·cases h1:g q
  ·cases h2:g' q
   ·rfl
   ·exact absurd (h' q h2) hq
  ·exact absurd (h q h1) hq
theorem Sup.cut{n:Nat}{g:Nat->Bool}(h:Sup n g):xV n g=g:=by
 funext q
 unfold xV
 cases hg:g q
 ·simp
 ·simp[h q hg]
abbrev BI:=NfI×(List Int×(List Int×(KM×(List (List Bool)×(List Int×(List (List Int)×List Int))))))
structure BOk(N:NfI)(n last:Nat)(ic cls:List Int)(b:BI)(gs:List (Nat->Bool)):Prop where
 nf:b.1=N
 mks:b.2.1=mkL n last
 rp:b.2.2.1=ic
 key:∀ k,gy eqK k b.2.2.2.1=true↔∃ g∈gs,k=fc n g
 cU:b.2.2.2.2.1=gs.map (bsN n)
 cl:b.2.2.2.2.2.1=cls
 mark:b.2.2.2.2.2.2.2=gs.map λg=>gb g last n
 sup:∀ g∈gs,Sup n g
def ug(g:Nat->Bool):Nat->Bool
 |0=>false
 |i+1=>ug g i||g i
theorem D8{g:Nat->Bool}:∀ {i:Nat},ug g i=true↔∃ q,q<i/\g q=true:=by
 intro i
 induction i with
 |zero=>
  constructor
  ·intro h;cases h
  ·rintro⟨q,h,_⟩;omega
 |succ i ih=>
  simp only[ug,aR,ih]
  constructor
  ·rintro(⟨q,h1,h2⟩|h)
   ·exact⟨q,by omega,h2⟩
   ·exact⟨i,by omega,h⟩
  ·rintro⟨q,h1,h2⟩
   by_cases e:q=i
   ·subst e;exact .inr h2
   ·exact .inl ⟨q,by omega,h2⟩
theorem ze{N:NfI}{n last:Nat}{ic cls:List Int}(hn:n<=100000)(hl:last<n){b:BI}{gs:List (Nat->Bool)}(hb:BOk N n last ic cls b gs)(hg:gs.length<=100000){g:Nat->Bool}(hs:Sup n g):
 ∃ (r:Int) (b':BI) (gs':List (Nat->Bool)),C3 N0 (b,(bsN n g,()))=some ((r,()),(b',()))/\BOk N n last ic cls b' gs'/\b'.2.2.2.2.2.2.1=b.2.2.2.2.2.2.1/\(((gs'=gs)/\((∀ q,g q=false)\/g∈gs))\/(gs'=gs++[g]/\g∉gs)):=by
 unfold C3
 simp only
 refine dz (λm x=>∃ i:Nat,x=((b,()),(ug g i,((i:Int),())))/\m+i=n) (λz=>∃ (r:Int) (b':BI) (gs':List (Nat->Bool)),z=some ((r,()),(b',()))/\BOk N n last ic cls b' gs'/\b'.2.2.2.2.2.2.1=b.2.2.2.2.2.2.1/\(((gs'=gs)/\((∀ q,g q=false)\/g∈gs))\/(gs'=gs++[g]/\g∉gs))) ?_ N0 n _ (by unfold N0;omega) ⟨0,?_,rfl⟩
 ·rintro m x ⟨i,rfl,hm⟩ k hk
  simp only[fY]
  rcases av i n with hi|hi
  ·have n0:(0:Int)<=(i:Int):=by omega
   rw[decide_eq_true (show(i:Int)<((n:Nat):Int) by omega),cond_true,if_pos n0,af,fZ g hi]
   simp only
   refine nJ (P:=λz=>∃ (r:Int) (b':BI) (gs':List (Nat->Bool)),z=some ((r,()),(b',()))/\BOk N n last ic cls b' gs'/\b'.2.2.2.2.2.2.1=b.2.2.2.2.2.2.1/\(((gs'=gs)/\((∀ q,g q=false)\/g∈gs))\/(gs'=gs++[g]/\g∉gs))) λK hK=>?_
   have hor:ug g (i+1)=(ug g i||g i):=rfl
   have fin:=hk (m-1) ((b,()),(ug g (i+1),(((i+1:Nat):Int),()))) (by omega) ⟨i+1,rfl,by omega⟩
   cases hd:ug g i
   ·rw[cond_false,hK]
    simp only
    rw[cE (by omega)]
    rw[hor,hd,cR]at fin
    exact fin
   ·rw[cond_true,hK]
    simp only
    rw[cE (by omega)]
    rw[hor,hd,jC]at fin
    exact fin
  ·have:i=n:=by omega
   subst this
   rw[decide_eq_false (show ¬(i:Int)<((i:Nat):Int) by omega),cond_false]
   cases hd:ug g i
   ·rw[aG,cond_true]
    refine⟨-1,b,gs,rfl,hb,rfl,.inl ⟨rfl,.inl λq=>?_⟩⟩
    cases hq:g q
    ·rfl
    ·rw[D8.2 ⟨q,hs q hq,hq⟩]at hd;cases hd
   ·rw[az,cond_false,aa (GR hn g)]
    simp only[hs.cut]
    show ∃ (r:Int) (b':BI) (gs':List (Nat->Bool)),(bif gy eqK (fc i g) b.2.2.2.1 then _ else _)=some ((r,()),(b',()))/\_
    cases hh:gy eqK (fc i g) b.2.2.2.1
    ·rw[cond_false]
     have hlen:b.2.2.2.2.1.length=gs.length:=by rw[hb.cU,bG]
     have yP:b.2.2.2.2.2.2.2.length=gs.length:=by rw[hb.mark,bG]
     rw[if_pos (by rw[hlen];simp;omega),if_pos (by rw[hlen];simp;omega)]
     rw[show(λ(a b:List Int)=>decide (a=b))=eqK from rfl]
     rw[aa (GW hn hl (b.1,(b.2.1,(b.2.2.1,(fB eqK (fc i g) (b.2.2.2.2.1.length:Int) b.2.2.2.1,(b.2.2.2.2.1++[bsN i g],b.2.2.2.2.2))))) hb.mks g)]
     simp only
     rw[if_pos (by rw[yP];simp;omega),if_pos (by rw[yP];simp;omega)]
     refine⟨_,_,gs++[g],rfl,⟨hb.nf,hb.mks,hb.rp,λk'=>?_,?_,hb.cl,?_,?_⟩,rfl,.inr ⟨rfl,λhm=>?_⟩⟩
     ·show gy eqK k' (fB eqK (fc i g) _ _)=true↔_
      rw[D7,aR,decide_eq_true_eq,hb.key]
      constructor
      ·rintro(h|⟨g',h1,h2⟩)
       ·exact⟨g,by simp,h⟩
       ·exact⟨g',by simp[h1],h2⟩
      ·rintro⟨g',h1,h2⟩
       rcases aC.1 h1 with h1|h1
       ·exact .inr ⟨g',h1,h2⟩
       ·simp at h1;subst h1;exact .inl h2
     ·show b.2.2.2.2.1++[bsN i g]=_
      rw[hb.cU];simp
     ·show b.2.2.2.2.2.2.2++[gb g last i]=_
      rw[hb.mark];simp
     ·intro g' hg'
      rcases aC.1 hg' with h1|h1
      ·exact hb.sup g' h1
      ·simp at h1;subst h1;exact hs
     ·have:=(hb.key (fc i g)).2 ⟨g,hm,rfl⟩
      rw[hh]at this;cases this
    ·rw[cond_true]
     refine⟨_,b,gs,rfl,hb,rfl,.inl ⟨rfl,.inr ?_⟩⟩
     obtain⟨g',h1,h2⟩:=(hb.key _).1 hh
     have:=hs.ext (hb.sup g' h1) (DV h2)
     rw[this];exact h1
 ·rfl
end
noncomputable section
theorem G7{n x:Nat}(h:x<n):(List.replicate n false).set x true=bsN n (λq=>decide (q=x)):=by
 have h0:List.replicate n false=bsN n (λ_=>false):=by
  apply dO
  intro i
  by_cases hi:i<n
  ·rw[fZ (n:=n) (λ_=>false) hi,jt,if_pos hi]
  ·rw[br (by rw[gk];omega),br (by rw[fY];omega)]
 rw[h0,uc _ h]
 congr 1
theorem G8{n x:Nat}(h:x<n):(List.replicate n false)[x]?=some false:=by
 rw[jt,if_pos h]
theorem wM{E:List Ed}{n:Nat}(hin:InE n E){f g:Nat->Bool}(hf:∀ q,f q=true->q<n)(h:fO E f g):Sup n g:=by
 intro q hq
 have:=h.2.2 (λq=>decide (q<n)) (λe he _ _=>by simpa using(hin e he).2) (λx hx=>by simpa using hf x hx) q hq
 simpa using this
theorem Bl{E:List Ed}{n:Nat}(hin:InE n E)(f:Nat->Bool)(c:Nat):∀ q,aS E f c q=true->q<n:=by
 intro q hq
 obtain⟨e,he,_,_,_,rfl⟩:=eH.1 hq
 exact(hin e he).2
structure wN(t:Rx)(g0:Nat->Bool)(gs:List (Nat->Bool)):Prop where
 nd:gs.Nodup
 rch:∀ g∈gs,Rch t g
 hd:gs[0]?=some g0
theorem wN.le{t:Rx}{g0:Nat->Bool}{gs:List (Nat->Bool)}(h:wN t g0 gs)(hw:t.wt<=12):gs.length<=2000:=Bj hw gs h.nd h.rch
theorem wN.push{t:Rx}{g0 g:Nat->Bool}{gs:List (Nat->Bool)}(h:wN t g0 gs)(hr:Rch t g)(hn:g∉gs):wN t g0 (gs++[g]) where
 nd:=by
  rw[List.nodup_append]
  refine⟨h.nd,by simp,λa ha b hb=>?_⟩
  simp at hb
  subst hb
  rintro rfl
  exact hn ha
 rch:=λg' hg'=>by
  rcases aC.1 hg' with h1|h1
  ·exact h.rch g' h1
  ·simp at h1;subst h1;exact hr
 hd:=by
  have:=h.hd
  rw[ig (bB.1 this).1]
  exact this
def Hx(l:List Int):Prop:=l.length<=256/\∀ v∈l,∃ c:Nat,c<256/\v=(c:Int)
abbrev DfI:=List Int×(List (List Int)×List Int)
def DQ(t:Rx)(z:Option ((DfI×(Int×Unit))×Unit)):Prop:=∃ d:DfI,z=some ((d,((0:Int),())),())/\d.2.2[0]?=some (if t.null=true then 0 else -1)
theorem Jj{t:Rx}(hok:t.ok)(hlen:t.len<=400)(hw:t.wt<=12):
 DQ t (p63 N0 (nfT t,(mkL (2*t.len) (t.lst 0),()))):=by
 have hin:=sF t
 have hE:=gF t 0
 have hS:=Jc t hok 0
 have NP:=t.jk 0
 have NQ:=t.mM 0
 have hn:2*t.len<=100000:=by omega
 unfold p63
 simp only
 rw[aa (wF hlen)]
 simp only
 rw[az,cond_false,show nfT t=(((2*t.len:Nat):Int),((t.ap 0).map edI,(((t.fst 0:Nat):Int),((t.lst 0:Nat):Int))))from rfl]
 rw[aa (GL (by omega) _)]
 simp only
 obtain⟨arr,NA,hao⟩:=GU (cU:=ga (t.ap 0)) (by have:=sG (t.ap 0);omega) (λS hS'=>by
  unfold ga at hS'
  obtain⟨e,he,rfl⟩:=iu.1 hS'
  exact hS e (ou.1 he).1)
 rw[aa NA]
 simp only
 generalize hNf:(((2*t.len:Nat):Int),((t.ap 0).map edI,(((t.fst 0:Nat):Int),((t.lst 0:Nat):Int))))=N
 have hN1:N.1=((2*t.len:Nat):Int):=by rw[<-hNf]
 have hN2:N.2.2.1=((t.fst 0:Nat):Int):=by rw[<-hNf]
 generalize hZ:(List.replicate 256 (0:Int),(([]:List (List Int)),([]:List Int)))=Z
 generalize hnn:2*t.len=n at *
 generalize hll:t.lst 0=last at *
 -- the bytes NR NI for Lc
 refine dz (λm x=>∃ (c:Nat) (ic:List Int),x=((Z,((N,(mkL n last,(ic,(([]:KM),(([]:List (List Bool)),(arr,(([]:List (List Int)),([]:List Int)))))))),())),((c:Int),()))/\m+c=256/\ic.length<=c/\Hx ic) (DQ t) ?_ N0 256 _ (by unfold N0;omega) ⟨0,[],rfl,rfl,by simp,by simp[Hx]⟩
 rintro m x ⟨c,ic,rfl,hm,hrl,hro⟩ k hk
 simp only
 rcases av c 256 with hc|hc
 ·have n0:(0:Int)<=(c:Int):=by omega
  obtain⟨v,hv⟩:∃ v,arr[c]?=some v:=⟨arr[c]'(by rw[hao.1];exact hc),au _⟩
  rw[decide_eq_true (show(c:Int)<256 by omega),cond_true,if_pos n0,af,hv]
  simp only
  refine nJ (P:=DQ t) λK hK=>?_
  cases hd:decide (IntKind.wrap .i64 v=((ic.length:Nat):Int))
  ·rw[cond_false,hK]
   simp only
   rw[cE (by omega)]
   exact hk (m-1) _ (by omega) ⟨c+1,ic,rfl,by omega,by omega,hro⟩
  ·rw[cond_true,if_pos (by simp;omega),if_pos (by simp;omega),hK]
   simp only
   rw[cE (by omega),iO hc]
   refine hk (m-1) _ (by omega) ⟨c+1,ic++[(c:Int)],rfl,by omega,by simp;omega,by simp;omega,λv' hv'=>?_⟩
   rcases aC.1 hv' with h1|h1
   ·exact hro.2 v' h1
   ·simp at h1;exact⟨c,hc,h1⟩
 ·rw[decide_eq_false (show ¬(c:Int)<256 by omega),cond_false]
  rw[if_pos ⟨by omega,by omega⟩,if_pos (by rw[af];omega),if_pos (by omega),af,af,G8 (show t.fst 0<n by omega)]
  simp only
  rw[if_pos (by omega)]
  have hbs:=G7 (n:=n) (x:=t.fst 0) (by omega)
  rw[hbs]
  obtain⟨g0,hg0,hc0⟩:=yT (n:=n) hn (E:=t.ap 0) (by omega) hin (((t.fst 0:Nat):Int),((last:Nat):Int)) (λq=>decide (q=t.fst 0))
  rw[hNf]at hg0
  rw[aa hg0]
  simp only
  have hs0:Sup n g0:=wM hin (λq hq=>by rw[decide_eq_true_eq]at hq;omega) hc0
  have hb0:BOk N n last ic arr (N,(mkL n last,(ic,(([]:KM),(([]:List (List Bool)),(arr,(([]:List (List Int)),([]:List Int)))))))) []:=
   ⟨rfl,rfl,rfl,λk=>⟨λh=>(by cases h),λ⟨g,h,_⟩=>(by simp at h)⟩,rfl,rfl,rfl,λg h=>(by simp at h)⟩
  obtain⟨r,b1,gs1,e1,ob1,nx1,NB⟩:=ze hn (by omega) hb0 (by simp) hs0
  rw[aa e1]
  simp only
  have NC:wN t g0 gs1:=by
   rcases NB with⟨_,h|h⟩|⟨rfl,_⟩
   ·have:=hc0.1 (t.fst 0) (by simp)
    rw[h]at this;cases this
   ·simp at h
   ·exact⟨by simp,λg hg=>by simp at hg;subst hg;exact .ini hc0,rfl⟩
  refine dz (λm x=>∃ (i:Nat) (b:BI) (gs:List (Nat->Bool)),x=((Z,(b,())),((i:Int),()))/\BOk N n last ic arr b gs/\wN t g0 gs/\m+i=2000/\i<=gs.length/\b.2.2.2.2.2.2.1.length=i) (DQ t) ?_ N0 2000 _ (by unfold N0;omega) ⟨0,b1,gs1,rfl,ob1,NC,rfl,bT _,by rw[nx1];rfl⟩
  rintro m x ⟨i,b,gs,rfl,ob,og,hm,hi,hnx⟩ k hk
  have hle:=og.le hw
  have hsl:b.2.2.2.2.1.length=gs.length:=by rw[ob.cU,bG]
  simp only[hsl]
  rcases av i gs.length with hil|hil
  ·rw[decide_eq_true (show(i:Int)<((gs.length:Nat):Int) by omega),cond_true,decide_eq_false (show ¬(2000:Int)<((gs.length:Nat):Int) by omega),cond_false]
   refine dz (λm x=>∃ (j:Nat) (b':BI) (gs':List (Nat->Bool)) (row:List Int),x=((Z,(b',())),(row,((j:Int),())))/\BOk N n last ic arr b' gs'/\wN t g0 gs'/\m+j=ic.length/\i<gs'.length/\b'.2.2.2.2.2.2.1.length=i/\row.length=j) (DQ t) ?_ N0 ic.length _ (by have:=hro.1;unfold N0;omega) ⟨0,b,gs,[],rfl,ob,og,rfl,hil,hnx,rfl⟩
   rintro m' x ⟨j,b',gs',row,rfl,ob',og',hm',Jk,ND,fi⟩ k' hk'
   simp only[ob.rp]
   have NS:=og'.le hw
   rcases av j ic.length with hj|hj
   ·obtain⟨cc,hcc,hcv⟩:=hro.2 _ (bO hj)
    have hgj:ic[j]?=some (cc:Int):=by rw[au hj,hcv]
    have hgi:gs'[i]?=some gs'[i]:=au Jk
    have hmi:gs'[i]∈gs':=bO Jk
    have cS:b'.2.2.2.2.1[i]?=some (bsN n gs'[i]):=by rw[ob'.cU,cn,hgi];rfl
    generalize gs'[i]=gi at hmi cS
    have x3:=hro.1
    rw[decide_eq_true (show(j:Int)<((ic.length:Nat):Int) by omega),cond_true,if_pos (by omega),af,hgj]
    simp only
    rw[if_pos (by omega),af,cS]
    simp only
    have h168:=GO (n:=n) hn (E:=t.ap 0) (by omega) hin hS (((t.fst 0:Nat):Int),((last:Nat):Int)) gi hcc
    rw[hNf]at h168
    rw[aa h168]
    simp only
    obtain⟨g2,hg2,hc2⟩:=yT (n:=n) hn (E:=t.ap 0) (by omega) hin (((t.fst 0:Nat):Int),((last:Nat):Int)) (aS (t.ap 0) gi cc)
    rw[hNf]at hg2
    rw[aa hg2]
    simp only
    have hs2:Sup n g2:=wM hin (Bl hin gi cc) hc2
    obtain⟨r2,b2,gs2,e2,ob2,nx2,K7⟩:=ze hn (by omega) ob' (by omega) hs2
    rw[aa e2]
    simp only
    rw[if_pos (by simp;omega),if_pos (by simp;omega),cE (by omega)]
    refine hk' (m' - 1) _ (by omega) ⟨j+1,b2,gs2,row++[r2],rfl,ob2,?_,by omega,?_,by rw[nx2];exact ND,by simp;omega⟩
    ·rcases K7 with⟨rfl,_⟩|⟨rfl,hnm⟩
     ·exact og'
     ·exact og'.push (.step hcc (og'.rch gi hmi) hc2) hnm
    ·rcases K7 with⟨rfl,_⟩|⟨rfl,_⟩
     ·exact Jk
     ·simp;omega
   ·rw[decide_eq_false (show ¬(j:Int)<((ic.length:Nat):Int) by omega),cond_false]
    rw[if_pos (by simp;omega),if_pos (by simp;omega),cE (by omega)]
    exact hk (m-1) _ (by omega) ⟨i+1,_,gs',rfl,⟨ob'.nf,ob'.mks,ob'.rp,ob'.key,ob'.cU,ob'.cl,ob'.mark,ob'.sup⟩,og',by omega,by omega,by simp;omega⟩
  ·rw[decide_eq_false (show ¬(i:Int)<((gs.length:Nat):Int) by omega),cond_false]
   refine⟨_,rfl,?_⟩
   show b.2.2.2.2.2.2.2[0]?=_
   rw[ob.mark,cn,og.hd]
   have hmn:=Bh t hc0
   rw[hll]at hmn
   have hln:last<n:=by omega
   simp only[cZ,gb,hmn]
   simp[hln]
end
noncomputable section
def cls(c:Nat):Int:=if c=32\/c=9\/c=10\/c=13 then 1 else if 48<=c/\c<=57 then 2 else if(97<=c/\c<=122)\/(65<=c/\c<=90)\/c=95 then 3 else if 32<c/\c<127 then 4 else 0
theorem D9:∀ c:Fin 256,AZ N0 (((c.val:Nat):Int),())=some ((cls c.val,()),()):=by decide +kernel
theorem Ea:∀ c:Fin 256,IL N0 (((c.val:Nat):Int),())=some ((cls c.val,()),()):=by decide +kernel
theorem zf{c:Int}(h:0<=c/\c<=255):AZ N0 (c,())=some ((cls c.toNat,()),()):=by
 have:=D9 ⟨c.toNat,by omega⟩
 simp only[cF h.1]at this
 exact this
theorem G9{c:Int}(h:0<=c/\c<=255):IL N0 (c,())=some ((cls c.toNat,()),()):=by
 have:=Ea ⟨c.toNat,by omega⟩
 simp only[cF h.1]at this
 exact this
def Bm(k:Nat)(c:Int):Prop:=cls c.toNat=3\/(cls c.toNat=2/\k≠0)
def Eb(s:List Int):Prop:=1<=s.length/\s.length<=40/\∀ k c,s[k]?=some c->Bm k c
def gf(s:List Int):Bool:=@decide (Eb s) (Classical.propDecidable _)
theorem zg{s:List Int}(h:Eb s):gf s=true:=@decide_eq_true _ (Classical.propDecidable _) h
theorem kz{s:List Int}(h:¬Eb s):gf s=false:=@decide_eq_false _ (Classical.propDecidable _) h
theorem uh{s:List Int}(hb:Bytes s)(hs:s.length<=maxLen):Dd N0 (s,())=some ((gf s,()),()):=by
 unfold Dd
 simp only
 refine ba (λm x r=>∃ j:Nat,x=((),((j:Int),()))/\m+j=s.length/\(∀ k c,k<j->s[k]?=some c->Bm k c)/\r=some ((gf s,()),())) ?_ N0 s.length _ _ (by have:=pA hs;omega) ⟨0,rfl,rfl,λk c h=>by omega,rfl⟩
 rintro m x r ⟨j,rfl,hm,hP,rfl⟩ k hk
 simp only
 rcases av j s.length with hj|hj
 ·have n0:(0:Int)<=(j:Int):=by omega
  have hg:s[j]?=some s[j]:=au hj
  generalize s[j]=c at hg
  rw[decide_eq_true (show(j:Int)<((s.length:Nat):Int) by omega),cond_true,if_pos n0,af,hg]
  simp only
  rw[aa (G9 (hb.get hg))]
  simp only
  by_cases hok:Bm j c
  ·refine aQ ((),(false,())) (λK=>?_) ?_
   ·rcases hok with h|⟨h,h0⟩
    ·rw[h];rfl
    ·rw[h,show(!decide ((2:Int)=3))=true from rfl,cond_true,show(!decide ((2:Int)=2))=false from rfl,cond_false,decide_eq_false (show ¬(j:Int)=0 by omega)]
   ·simp only
    rw[cond_false,bg hj hs]
    refine hk (m-1) _ _ (by omega) ⟨j+1,rfl,by omega,λk c' hk' hc'=>?_,rfl⟩
    by_cases e:k=j
    ·subst e
     rw[hg]at hc'
     injection hc' with hc'
     subst hc'
     exact hok
    ·exact hP k c' (by omega) hc'
  ·refine aQ ((),(true,())) (λK=>?_) ?_
   ·unfold Bm at hok
    have h3:¬cls c.toNat=3:=λh=>hok (.inl h)
    rw[decide_eq_false h3,aG,cond_true]
    by_cases h2:cls c.toNat=2
    ·have h0:j=0:=by
      rcases cM j with h|h
      ·exact h
      ·exact absurd (.inr ⟨h2,by omega⟩) hok
     rw[decide_eq_true h2,az,cond_false,decide_eq_true (show(j:Int)=0 by omega)]
    ·rw[decide_eq_false h2,aG,cond_true]
   ·simp only
    rw[cond_true,kz λh=>hok (h.2.2 j c hg)]
 ·rw[decide_eq_false (show ¬(j:Int)<((s.length:Nat):Int) by omega),cond_false]
  refine aQ ((),(gf s,())) (λK=>?_) rfl
  have K8:∀ k c,s[k]?=some c->Bm k c:=λk c hc=>hP k c (bc (bB.1 hc).1 hj) hc
  by_cases h1:1<=s.length
  ·rw[decide_eq_true (show(1:Int)<=((s.length:Nat):Int) by omega),cond_true]
   by_cases h2:s.length<=40
   ·rw[decide_eq_true (show((s.length:Nat):Int)<=40 by omega),zg ⟨h1,h2,K8⟩]
   ·rw[decide_eq_false (show ¬((s.length:Nat):Int)<=40 by omega),kz λh=>h2 h.2.1]
  ·rw[decide_eq_false (show ¬(1:Int)<=((s.length:Nat):Int) by omega),cond_false,kz λh=>h1 h.1]
end
noncomputable section
theorem ui{s:List Int}(hb:Bytes s)(hs:s.length<=maxLen):A1 N0 (s,())=some ((gf s,()),()):=by
 unfold A1
 simp only
 by_cases h40:40<s.length
 ·refine aQ ((),(true,())) (λK=>?_) ?_
  ·rw[decide_eq_true (show(40:Int)<((s.length:Nat):Int) by omega),cond_true]
  ·simp only
   rw[cond_true,kz λh=>by have:=h.2.1;omega]
 cases s with
 |nil=>
  refine aQ ((),(true,())) (λK=>?_) ?_
  ·rfl
  ·simp only
   rw[cond_true,kz λh=>by have:=h.1;simp at this]
 |cons c r=>
  have hc:=hb c (by simp)
  have n0:(0:Int)<=0:=by omega
  have zP:∀ K:Unit×(Bool×Unit)->Option ((Bool×Unit)×Unit),(bif decide ((40:Int)<(((c::r:List Int).length:Nat):Int))then K ((),(true,()))else(bif decide ((c::r:List Int)=[])then K ((),(true,()))else(if(0:Int)<=0 then(match(c::r:List Int)[((0:Int)).toNat]? with|some v11=>(ah (AZ N0 (v11,())) λv12=>K ((),((!decide (v12.1.1=3)),())))|none=>none)else none)))=K ((),((!decide (cls c.toNat=3)),())):=by
   intro K
   rw[decide_eq_false (show ¬(40:Int)<(((c::r:List Int).length:Nat):Int) by omega),cond_false,show decide ((c::r:List Int)=[])=false from rfl,cond_false,if_pos n0,wA]
   simp only
   rw[aa (zf hc)]
  refine aQ ((),((!decide (cls c.toNat=3)),())) (λK=>zP K) ?_
  simp only
  by_cases h3:cls c.toNat=3
  ·rw[decide_eq_true h3,az,cond_false]
   refine ba (λm x q=>∃ j:Nat,x=((),((j:Int),()))/\m+j=(c::r).length/\(∀ k d,k<j->(c::r)[k]?=some d->Bm k d)/\q=some ((gf (c::r),()),())) ?_ N0 (c::r).length _ _ (by have:=pA hs;omega) ⟨0,rfl,rfl,λk d h=>by omega,rfl⟩
   rintro m x q ⟨j,rfl,hm,hP,rfl⟩ k hk
   simp only
   rcases av j (c::r).length with hj|hj
   ·have n1:(0:Int)<=(j:Int):=by omega
    have hg:(c::r)[j]?=some (c::r)[j]:=au hj
    generalize (c::r)[j]=d at hg
    rw[decide_eq_true (show(j:Int)<(((c::r:List Int).length:Nat):Int) by omega),cond_true,if_pos n1,af,hg]
    simp only
    rw[aa (zf (hb.get hg))]
    simp only
    by_cases hok:cls d.toNat=2\/cls d.toNat=3
    ·refine aQ ((),(false,())) (λK=>?_) ?_
     ·rcases hok with h|h <;> rw[h] <;> rfl
     ·simp only
      rw[cond_false,bg hj hs]
      refine hk (m-1) _ _ (by omega) ⟨j+1,rfl,by omega,λk d' hk' hd'=>?_,rfl⟩
      by_cases e:k=j
      ·subst e
       rw[hg]at hd'
       injection hd' with hd'
       subst hd'
       rcases hok with h|h
       ·right
        refine⟨h,λhk0=>?_⟩
        subst hk0
        have:c=d:=by simpa using hg
        rw[<-this,h3]at h
        cases h
       ·exact .inl h
      ·exact hP k d' (by omega) hd'
    ·have h2:¬cls d.toNat=2:=λh=>hok (.inl h)
     have h3':¬cls d.toNat=3:=λh=>hok (.inr h)
     refine aQ ((),(true,())) (λK=>?_) ?_
     ·rw[decide_eq_false h2,aG,cond_true,decide_eq_false h3',aG]
     ·simp only
      rw[cond_true,kz λh=>by
       rcases h.2.2 j d hg with h|h
       ·exact h3' h
       ·exact h2 h.1]
   ·rw[decide_eq_false (show ¬(j:Int)<(((c::r:List Int).length:Nat):Int) by omega),cond_false]
    rw[zg ⟨by simp,by omega,λk d hd=>hP k d (bc (bB.1 hd).1 hj) hd⟩]
  ·rw[decide_eq_false h3,aG,cond_true,kz λh=>by
    rcases h.2.2 0 c rfl with h|h
    ·exact h3 h
    ·exact h.2 rfl]
end
noncomputable section
abbrev RuI:=List Int×(Int×List Int)
def Ec(r:RuI):Prop:=Bytes r.1/\r.1.length<=maxLen/\Bytes r.2.2/\r.2.2.length<=maxLen
def zh(s:List Int):Int:=match fk s with
 |.error e=>e
 |.ok t=>if t.null=true then 14 else 0
def Bn(rs:List RuI)(i:Nat)(nm:List Int):Prop:=∃ j r,j<i/\rs[j]?=some r/\r.1=nm
noncomputable instance (rs:List RuI) (i:Nat) (nm:List Int):Decidable (Bn rs i nm):=Classical.propDecidable _
def pE(rs:List RuI)(i:Nat)(r:RuI):Int:=
 if gf r.1=false then 8 else if Bn rs i r.1 then 9 else if r.2.1<0\/2<r.2.1 then 1 else zh r.2.2
theorem Ha{rs:List RuI}(hs:rs.length<=maxLen){i:Nat}{r:RuI}(hr:rs[i]?=some r)(hok:Ec r):IN N0 (rs,((i:Int),()))=some ((pE rs i r,()),()):=by
 obtain⟨h1,h2,h3,h4⟩:=hok
 have hi:i<rs.length:=(bB.1 hr).1
 have n0:(0:Int)<=(i:Int):=by omega
 unfold IN
 simp only
 rw[if_pos n0,af,hr]
 simp only
 rw[aa (uh h1 h2)]
 simp only
 unfold pE
 cases hn:gf r.1
 ·rw[aG,cond_true,if_pos rfl]
 rw[az,cond_false,if_neg (by simp)]
 refine ba (λm x q=>∃ j:Nat,x=((),((j:Int),()))/\m+j=i/\(∀ k r',k<j->rs[k]?=some r'->¬r'.1=r.1)/\q=some ((if Bn rs i r.1 then 9 else if r.2.1<0\/2<r.2.1 then 1 else zh r.2.2,()),())) ?_ N0 i _ _ (by unfold N0;unfold maxLen at hs;omega) ⟨0,rfl,rfl,λk r' h=>by omega,rfl⟩
 rintro m x q ⟨j,rfl,hm,hP,rfl⟩ k hk
 simp only
 rcases av j i with hj|hj
 ·have n1:(0:Int)<=(j:Int):=by omega
  have hg:rs[j]?=some (rs[j]'(by omega)):=au _
  generalize rs[j]'(by omega)=r' at hg
  rw[decide_eq_true (show(j:Int)<(i:Int) by omega),cond_true,if_pos n1,af,hg]
  simp only
  by_cases e:r'.1=r.1
  ·rw[decide_eq_true e,cond_true,if_pos ⟨j,r',hj,hg,e⟩]
  ·rw[decide_eq_false e,cond_false,bg (show j<rs.length by omega) hs]
   refine hk (m-1) _ _ (by omega) ⟨j+1,rfl,by omega,λk' r2 hk' hr2=>?_,rfl⟩
   by_cases e2:k'=j
   ·subst e2
    rw[hg]at hr2
    injection hr2 with hr2
    subst hr2
    exact e
   ·exact hP k' r2 (by omega) hr2
 ·rw[decide_eq_false (show ¬(j:Int)<(i:Int) by omega),cond_false]
  have hnd:¬Bn rs i r.1:=by
   rintro⟨k',r2,hk',hr2,e⟩
   exact hP k' r2 (by omega) hr2 e
  rw[if_neg hnd]
  refine aQ ((),(decide (r.2.1<0\/2<r.2.1),())) (λK=>?_) ?_
  ·by_cases q1:r.2.1<0
   ·rw[decide_eq_true q1,cond_true,decide_eq_true (.inl q1)]
   ·rw[decide_eq_false q1,cond_false]
    have:decide (r.2.1<0\/2<r.2.1)=decide (2<r.2.1):=by rw[decide_eq_decide];exact⟨λh=>h.resolve_left q1,.inr⟩
    rw[this]
  ·simp only
   by_cases hk2:r.2.1<0\/2<r.2.1
   ·rw[if_pos hk2,decide_eq_true hk2,cond_true]
   ·rw[if_neg hk2,decide_eq_false hk2,cond_false,aa (GC h3)]
    unfold zh
    cases hp:fk r.2.2 with
    |error e=>
     rcases mO hp with rfl|rfl <;> rfl
    |ok t=>
     obtain⟨q1,q2,q3⟩:=o3 h3 hp
     simp only[DC]
     rw[decide_true,az,cond_false,aa (GF q1 (by omega))]
     simp only
     cases t.null <;> rfl
end
noncomputable section
def chk(rs:List RuI):Nat->List RuI->Nat×Int
 |i,[]=>(i,0)
 |i,r::rest=>if pE rs i r=0 then chk rs (i+1) rest else(i,pE rs i r)
def jY(rs:List RuI):Nat×Int:=if 60<rs.length then(rs.length,6)else chk rs 0 rs
theorem Jl{rs:List RuI}(hs:rs.length<=maxLen)(hok:∀ r∈rs,Ec r):p58 N0 (rs,())=some ((((jY rs).1:Int),((jY rs).2,())),()):=by
 unfold p58 jY
 simp only
 by_cases h60:60<rs.length
 ·rw[if_pos h60,decide_eq_true (show(60:Int)<((rs.length:Nat):Int) by omega),cond_true]
 rw[if_neg h60,decide_eq_false (show ¬(60:Int)<((rs.length:Nat):Int) by omega),cond_false]
 refine ba (λm x q=>∃ j:Nat,x=((),((j:Int),()))/\m+j=rs.length/\chk rs j (rs.drop j)=chk rs 0 rs/\q=some ((((chk rs 0 rs).1:Int),((chk rs 0 rs).2,())),())) ?_ N0 rs.length _ _ (by have:=pA hs;omega) ⟨0,rfl,rfl,by rw[da],rfl⟩
 rintro m x q ⟨j,rfl,hm,hch,rfl⟩ k hk
 simp only
 rcases av j rs.length with hj|hj
 ·have hg:rs[j]?=some rs[j]:=au hj
  have mg:=hok _ (bO hj)
  rw[dB hj]at hch
  generalize rs[j]=r at hg mg hch
  rw[decide_eq_true (show(j:Int)<((rs.length:Nat):Int) by omega),cond_true,aa (Ha hs hg mg)]
  simp only
  simp only[chk]at hch
  by_cases he:pE rs j r=0
  ·rw[if_pos he]at hch
   rw[decide_eq_true he,az,cond_false,bg hj hs]
   exact hk (m-1) _ _ (by omega) ⟨j+1,rfl,by omega,hch,rfl⟩
  ·rw[if_neg he]at hch
   rw[decide_eq_false he,aG,cond_true,<-hch]
 ·have:j=rs.length:=by omega
  subst this
  rw[decide_eq_false (show ¬((rs.length:Nat):Int)<((rs.length:Nat):Int) by omega),cond_false]
  rw[eE]at hch
  rw[<-hch]
  rfl
end
noncomputable section
theorem Bo{s:List Int}(hb:Bytes s)(h12:s.length<=12){t:Rx}(h:fk s=.ok t):∃ d,p68 N0 (s,())=some ((d,((0:Int),())),())/\d.2.2[0]?=some (if t.null=true then 0 else -1):=by
 obtain⟨h1,h2,h3⟩:=o3 hb h
 have hw:=Bi hb h
 obtain⟨d,hd,hm⟩:=Jj h1 h2 (by omega)
 exact⟨d,Ji hb (by unfold maxLen;omega) h (G6 h2 hd),hm⟩
theorem Ee(k k':List Int)(v:Int):∀ x:KM,cW eqK k (fB eqK k' v x)=if k=k' then v else cW eqK k x:=by
 intro x
 induction x with
 |nil=>
  simp only[fB,cW,eqK]
  by_cases e:k=k' <;> simp[e]
 |cons p r ih=>
  simp only[fB]
  by_cases e:k'=p.1
  ·have:eqK k' p.1=true:=decide_eq_true e
   rw[this,cond_true]
   simp only[cW]
   rw[<-e]
   by_cases e2:k=k'
   ·rw[show eqK k k'=true from decide_eq_true e2,if_pos e2];rfl
   ·rw[show eqK k k'=false from decide_eq_false e2,if_neg e2];rfl
  ·have:eqK k' p.1=false:=decide_eq_false e
   rw[this,cond_false]
   simp only[cW]
   by_cases e2:k=p.1
   ·rw[show eqK k p.1=true from decide_eq_true e2,cond_true,cond_true]
    rw[if_neg]
    rintro rfl
    exact e e2
   ·rw[show eqK k p.1=false from decide_eq_false e2,cond_false,cond_false,ih]
def rl(rs:List RuI)(i:Nat)(m:KM):Prop:=∀ k,(0<cW eqK k m↔Bn rs i k)/\0<=cW eqK k m/\cW eqK k m<=(i:Int)
theorem rl.next{rs:List RuI}{i:Nat}{m:KM}(h:rl rs i m){r:RuI}(hr:rs[i]?=some r):rl rs (i+1) (fB eqK r.1 (cW eqK r.1 m+1) m):=by
 intro k
 rw[Ee]
 obtain⟨h1,h2,h3⟩:=h k
 by_cases e:k=r.1
 ·subst e
  rw[if_pos rfl]
  refine⟨⟨λ_=>⟨i,r,by omega,hr,rfl⟩,λ_=>by omega⟩,by omega,by omega⟩
 ·rw[if_neg e,h1]
  refine⟨⟨λ⟨j,r',a1,a2,a3⟩=>⟨j,r',by omega,a2,a3⟩,λ⟨j,r',a1,a2,a3⟩=>?_⟩,by omega,by omega⟩
  by_cases e2:j=i
  ·subst e2
   rw[hr]at a2
   injection a2 with a2
   subst a2
   exact absurd a3.symm e
  ·exact⟨j,r',by omega,a2,a3⟩
theorem Hb{rs:List RuI}{i:Nat}{r:RuI}(hr:rs[i]?=some r)(hok:Ec r)(h12:r.2.2.length<=12){m:KM}(hm:rl rs i m):F7 N0 (r,(m,()))=some ((pE rs i r,()),()):=by
 obtain⟨h1,h2,h3,h4⟩:=hok
 unfold F7
 simp only
 rw[aa (ui h1 h2)]
 simp only
 unfold pE
 cases hn:gf r.1
 ·rw[aG,cond_true,if_pos rfl]
 rw[az,cond_false,if_neg (by simp)]
 show(bif decide ((0:Int)<cW eqK r.1 m)then _ else _)=_
 by_cases hd:Bn rs i r.1
 ·rw[decide_eq_true ((hm r.1).1.2 hd),cond_true,if_pos hd]
 rw[decide_eq_false (λh=>hd ((hm r.1).1.1 h)),cond_false,if_neg hd]
 refine aQ ((),(decide (r.2.1<0\/2<r.2.1),())) (λK=>?_) ?_
 ·by_cases q1:r.2.1<0
  ·rw[decide_eq_true q1,cond_true,decide_eq_true (.inl q1)]
  ·rw[decide_eq_false q1,cond_false]
   have:decide (r.2.1<0\/2<r.2.1)=decide (2<r.2.1):=by rw[decide_eq_decide];exact⟨λh=>h.resolve_left q1,.inr⟩
   rw[this]
 ·simp only
  by_cases hk2:r.2.1<0\/2<r.2.1
  ·rw[if_pos hk2,decide_eq_true hk2,cond_true]
  ·rw[if_neg hk2,decide_eq_false hk2,cond_false]
   unfold zh
   cases hp:fk r.2.2 with
   |error e=>
    rw[aa (G4 h3 h4 hp)]
    rcases mO hp with rfl|rfl <;> rfl
   |ok t=>
    obtain⟨d,hd2,hd3⟩:=Bo h3 h12 hp
    rw[aa hd2]
    simp only
    rw[decide_true,az,cond_false,aa (D4 hd3)]
    simp only
    cases t.null <;> rfl
theorem Jm{rs:List RuI}(hs:rs.length<=maxLen)(hok:∀ r∈rs,Ec r)(h12:∀ r∈rs,r.2.2.length<=12):p59 N0 (rs,())=some ((((jY rs).1:Int),((jY rs).2,())),()):=by
 unfold p59 jY
 simp only
 by_cases h60:60<rs.length
 ·rw[if_pos h60,decide_eq_true (show(60:Int)<((rs.length:Nat):Int) by omega),cond_true]
 rw[if_neg h60,decide_eq_false (show ¬(60:Int)<((rs.length:Nat):Int) by omega),cond_false]
 refine ba (λm x q=>∃ (j:Nat) (mp:KM),x=((mp,()),((j:Int),()))/\m+j=rs.length/\rl rs j mp/\chk rs j (rs.drop j)=chk rs 0 rs/\q=some ((((chk rs 0 rs).1:Int),((chk rs 0 rs).2,())),())) ?_ N0 rs.length _ _ (by have:=pA hs;omega) ⟨0,[],rfl,rfl,λk=>⟨⟨λh=>absurd h (by simp[cW]),λ⟨j,_,h,_⟩=>by omega⟩,by simp[cW],by simp[cW]⟩,by rw[da],rfl⟩
 rintro m x q ⟨j,mp,rfl,hm,hsn,hch,rfl⟩ k hk
 simp only
 rcases av j rs.length with hj|hj
 ·have hg:rs[j]?=some rs[j]:=au hj
  have mg:=hok _ (bO hj)
  have Hy:=h12 _ (bO hj)
  rw[dB hj]at hch
  generalize rs[j]=r at hg mg Hy hch
  have n0:(0:Int)<=(j:Int):=by omega
  rw[decide_eq_true (show(j:Int)<((rs.length:Nat):Int) by omega),cond_true,if_pos n0,af,hg]
  simp only
  rw[aa (Hb hg mg Hy hsn)]
  simp only
  simp only[chk]at hch
  by_cases he:pE rs j r=0
  ·rw[if_pos he]at hch
   rw[decide_eq_true he,az,cond_false,bg hj hs]
   show k (((fB eqK r.1 (IntKind.wrap .i64 (cW eqK r.1 mp+1)) mp),()),_)=_
   have e1:IntKind.wrap .i64 (cW eqK r.1 mp+1)=cW eqK r.1 mp+1:=by
    obtain⟨_,q1,q2⟩:=hsn r.1
    obtain⟨u,hu⟩:∃ u:Nat,cW eqK r.1 mp=(u:Int):=⟨_,(cF q1).symm⟩
    rw[hu]at q2 |-
    rw[cE (by omega)]
    rfl
   rw[e1]
   exact hk (m-1) _ _ (by omega) ⟨j+1,_,rfl,by omega,hsn.next hg,hch,rfl⟩
  ·rw[if_neg he]at hch
   rw[decide_eq_false he,aG,cond_true,<-hch]
 ·have:j=rs.length:=by omega
  subst this
  rw[decide_eq_false (show ¬((rs.length:Nat):Int)<((rs.length:Nat):Int) by omega),cond_false]
  rw[eE]at hch
  rw[<-hch]
  rfl
end
noncomputable section
abbrev Hc:=Bool×Int
abbrev PrI:=Int×(List Int×(List Hc×(Bool×(Int×List Int))))
abbrev LvI:=Int×List Int
abbrev GrI:=List RuI×(List (List Int)×(List PrI×(List LvI×Int)))
structure rL(g:GrI):Prop where
 r0:g.1.length<=100000
 r1:∀ r∈g.1,Ec r
 s0:g.2.1.length<=100000
 s1:∀ s∈g.2.1,Bytes s/\s.length<=maxLen
 p0:g.2.2.1.length<=100000
 p1:∀ p∈g.2.2.1,Bytes p.2.1/\p.2.1.length<=maxLen
 p2:∀ p∈g.2.2.1,p.2.2.1.length<=100000
 p3:∀ p∈g.2.2.1,p.2.2.2.2.2.length<=100000
 l0:g.2.2.2.1.length<=100000
 l1:∀ l∈g.2.2.2.1,l.2.length<=100000
theorem le_max{n:Nat}(h:n<=100000):n<=maxLen:=by unfold maxLen;omega
theorem gj{n:Nat}(h:n<=100000):n<N0:=by unfold N0;omega
theorem zj{α A R:Type}{body:A->(A->Option R)->Option R}(l:List α)(f:Nat->A)(bad:α->Bool)(found:Nat->Option R)(after:Option R)
 (step:∀ j,(h:j<l.length)->∀ k,body (f j) k=if bad l[j]=true then found j else k (f (j+1))) (fin:∀ k,body (f l.length) k=after) (n:Nat) (hn:l.length<n):
 aA body n (f 0)=match l.findIdx? bad with|some j=>found j|none=>after:=by
 have:=nA (body:=body) f (λj=>match(l.drop j).findIdx? bad with|some i=>found (j+i)|none=>after) l.length (λj hj k hk=>by
  rcases av j l.length with hi|hi
  ·rw[step j hi,dB hi,List.findIdx?_cons]
   cases hb:bad l[j]
   ·simp only[aE,if_false]
    rw[hk hi]
    cases(l.drop (j+1)).findIdx? bad with
    |none=>rfl
    |some i=>simp only[cZ];congr 1;omega
   ·simp
  ·have e:j=l.length:=by omega
   rw[e,fin];simp) n 0 (bT _) (by omega)
 rw[this,da]
 cases l.findIdx? bad with
 |none=>rfl
 |some i=>simp
def cm{α:Type}(E:Nat->α->Int):Nat->List α->Option (Int×Nat)
 |_,[]=>none
 |i,a::r=>if E i a=0 then cm E (i+1) r else some (E i a,i)
theorem o8{α A R:Type}{body:A->(A->Option R)->Option R}(l:List α)(f:Nat->A)(E:Nat->α->Int)(found:Int->Nat->Option R)(after:Option R)
 (step:∀ j,(h:j<l.length)->∀ k,body (f j) k=if E j l[j]=0 then k (f (j+1))else found (E j l[j]) j) (fin:∀ k,body (f l.length) k=after) (n:Nat) (hn:l.length<n):
 aA body n (f 0)=match cm E 0 l with|some p=>found p.1 p.2|none=>after:=by
 have:=nA (body:=body) f (λj=>match cm E j (l.drop j)with|some p=>found p.1 p.2|none=>after) l.length (λj hj k hk=>by
  rcases av j l.length with hi|hi
  ·rw[step j hi,dB hi]
   simp only[cm]
   by_cases hb:E j l[j]=0
   ·rw[if_pos hb,if_pos hb,hk hi]
   ·rw[if_neg hb,if_neg hb]
  ·have e:j=l.length:=by omega
   rw[e,fin];simp[cm]) n 0 (bT _) (by omega)
 rw[this,da]
theorem sK{α:Type}(l:List α)(i:Nat)(h:i<=l.length):bZ l 0 (i:Int)=l.take i:=by
 unfold bZ
 simp
def fu(g:GrI)(s:Hc):Bool:=
 if s.1=true then decide (0<=s.2)&&decide (s.2<(g.2.1.length:Int))else decide (0<=s.2)&&(match g.1[s.2.toNat]? with|some r=>decide (r.2.1=0)|none=>false)
theorem uj(g:GrI)(s:Hc):A3 N0 (g,(s,()))=some ((fu g s,()),()):=by
 obtain⟨b,n⟩:=s
 unfold A3 fu
 simp only
 cases b
 ·simp only[aE,if_false,cond_false]
  refine aQ ((),(decide (0<=n)&&(match g.1[n.toNat]? with|some r=>decide (r.2.1=0)|none=>false),())) (λK=>?_) rfl
  by_cases h0:0<=n
  ·rw[decide_eq_true h0,cond_true,bK]
   by_cases h1:n<((g.1.length:Nat):Int)
   ·rw[decide_eq_true h1,cond_true,if_pos h0,au (show n.toNat<g.1.length by omega)]
   ·rw[decide_eq_false h1,cond_false,br (show g.1.length<=n.toNat by omega)]
  ·rw[decide_eq_false h0,cond_false,dE]
 ·simp only[if_true,cond_true]
  refine aQ ((),(decide (0<=n)&&decide (n<(g.2.1.length:Int)),())) (λK=>?_) rfl
  by_cases h0:0<=n
  ·rw[decide_eq_true h0,cond_true,bK]
  ·rw[decide_eq_false h0,cond_false,dE]
theorem uk(g:GrI)(s:Hc):De N0 (g,(s,()))=some ((fu g s,()),()):=by
 obtain⟨b,n⟩:=s
 unfold De fu
 simp only
 cases b
 ·simp only[aE,if_false,cond_false]
  refine aQ ((),(decide (0<=n)&&(match g.1[n.toNat]? with|some r=>decide (r.2.1=0)|none=>false),())) (λK=>?_) rfl
  by_cases h0:0<=n
  ·rw[decide_eq_true h0,cond_true,bK]
   by_cases h1:n<((g.1.length:Nat):Int)
   ·rw[decide_eq_true h1,cond_true,if_pos h0,au (show n.toNat<g.1.length by omega)]
   ·rw[decide_eq_false h1,cond_false,br (show g.1.length<=n.toNat by omega)]
  ·rw[decide_eq_false h0,cond_false,dE]
 ·simp only[if_true,cond_true]
  refine aQ ((),(decide (0<=n)&&decide (n<(g.2.1.length:Int)),())) (λK=>?_) rfl
  by_cases h0:0<=n
  ·rw[decide_eq_true h0,cond_true,bK]
  ·rw[decide_eq_false h0,cond_false,dE]
def lz(p:PrI):Bool:=match p.2.2.1 with
 |[a,b,c]=>!a.1&&((b.1&&decide (b.2=p.1))&&!c.1)
 |_=>false
theorem Hz{p:PrI}(h:¬p.2.2.1.length=3):lz p=false:=by
 unfold lz
 split
 ·rename_i e;rw[e]at h;simp at h
 ·rfl
theorem Hd(p:PrI):Gc N0 (p,())=some ((lz p,()),()):=by
 obtain⟨s,c,body,par,pr,hi⟩:=p
 unfold Gc
 simp only
 refine aQ ((),(lz (s,(c,(body,(par,(pr,hi))))),())) (λK=>?_) rfl
 by_cases h3:body.length=3
 ·rw[decide_eq_true (show((body.length:Nat):Int)=3 by omega),cond_true]
  match body,h3 with
  |[(a1,a2),(b1,b2),(c1,c2)],_=>
   show(if(0:Int)<=0 then _ else _)=_
   rw[if_pos (by omega)]
   show(bif !a1 then _ else _)=_
   cases a1
   ·rw[aG,cond_true]
    rw[if_pos (by omega)]
    show(bif(bif(b1 == true)then decide (b2=s)else false)then _ else _)=_
    cases b1
    ·rfl
    ·show(bif decide (b2=s)then _ else _)=_
     by_cases e:b2=s
     ·rw[decide_eq_true e,cond_true,if_pos (by omega)]
      show K ((),(!c1,()))=_
      simp[lz,e]
     ·rw[decide_eq_false e,cond_false]
      simp[lz,e]
   ·rfl
 ·rw[decide_eq_false (show ¬((body.length:Nat):Int)=3 by omega),cond_false,Hz h3]
theorem He(p:PrI):IP N0 (p,())=some ((lz p,()),()):=by
 obtain⟨s,c,body,par,pr,hi⟩:=p
 unfold IP
 simp only
 refine aQ ((),(lz (s,(c,(body,(par,(pr,hi))))),())) (λK=>?_) rfl
 by_cases h3:body.length=3
 ·rw[decide_eq_true (show((body.length:Nat):Int)=3 by omega),cond_true]
  match body,h3 with
  |[(a1,a2),(b1,b2),(c1,c2)],_=>
   show(if(0:Int)<=0 then _ else _)=_
   rw[if_pos (by omega)]
   show(bif !a1 then _ else _)=_
   cases a1
   ·rw[aG,cond_true]
    rw[if_pos (by omega)]
    show(bif b1 then _ else _)=_
    cases b1
    ·rfl
    ·rw[cond_true,if_pos (by omega)]
     show(bif decide (b2=s)then _ else _)=_
     by_cases e:b2=s
     ·rw[decide_eq_true e,cond_true,if_pos (by omega)]
      show K ((),(!c1,()))=_
      simp[lz,e]
     ·rw[decide_eq_false e,cond_false]
      simp[lz,e]
   ·rfl
 ·rw[decide_eq_false (show ¬((body.length:Nat):Int)=3 by omega),cond_false,Hz h3]
def iR(g:GrI)(i:Nat)(s:List Int):Int:=
 if gf s=false then 8 else if(g.2.1.take i).any (λx=>decide (x=s))||g.1.any (λr=>decide (r.1=s))then 9 else 0
theorem zk{g:GrI}{i:Nat}{s:List Int}(h:gf s=false):iR g i s=8:=by unfold iR;rw[if_pos h]
theorem ul{g:GrI}{i:Nat}{s:List Int}(h:gf s=true)(h2:((g.2.1.take i).any (λx=>decide (x=s))||g.1.any (λr=>decide (r.1=s)))=true):iR g i s=9:=by unfold iR;rw[if_neg (by rw[h];simp),if_pos h2]
theorem zl{g:GrI}{i:Nat}{s:List Int}(h:gf s=true)(h2:((g.2.1.take i).any (λx=>decide (x=s))||g.1.any (λr=>decide (r.1=s)))=false):iR g i s=0:=by unfold iR;rw[if_neg (by rw[h];simp),if_neg (by rw[h2];simp)]
theorem Hf{l:List (List Int)}(hl:l.length<=100000)(s:List Int):F8 N0 (l,(s,()))=some ((match l.findIdx? (λx=>decide (x=s))with|some j=>(j:Int)|none=>-1,()),()):=by
 unfold F8
 simp only
 refine(zj l (λj=>((),((j:Int),()))) (λx=>decide (x=s)) (λj=>some (((j:Int),()),())) (some ((-1,()),())) (λj h k=>?_) (λk=>?_) N0 (gj hl)).trans ?_
 ·simp only
  rw[decide_eq_true (show(j:Int)<((l.length:Nat):Int) by omega),cond_true,if_pos (by omega),af,au h]
  simp only
  by_cases e:l[j]=s
  ·rw[decide_eq_true e.symm,cond_true,decide_eq_true e,if_pos rfl]
  ·rw[decide_eq_false (λh=>e h.symm),cond_false,decide_eq_false e,if_neg (by simp),bg h (le_max hl)]
 ·simp only
  rw[decide_eq_false (by omega),cond_false]
 ·cases l.findIdx? (λx=>decide (x=s)) <;> rfl
theorem Ef{α:Type}(l:List α)(f:α->Bool):decide ((0:Int)<=match l.findIdx? f with|some j=>(j:Int)|none=>-1)=l.any f:=by
 cases h:l.findIdx? f with
 |none=>
  rw[List.findIdx?_eq_none_iff]at h
  have:l.any f=false:=by
   rw[List.any_eq_false]
   intro x hx
   simpa using h x hx
  rw[this]
  rfl
 |some j=>
  obtain⟨h1,h2,_⟩:=List.findIdx?_eq_some_iff_getElem.1 h
  have:l.any f=true:=fJ.2 ⟨_,bO h1,h2⟩
  rw[this]
  exact decide_eq_true (by simp)
theorem Hg{l:List (List Int)}(hl:l.length<=100000)(s:List Int):F9 N0 (l,(s,()))=some ((l.any (λx=>decide (x=s)),()),()):=by
 unfold F9
 simp only
 rw[aa (Hf hl s)]
 simp only
 rw[Ef]
theorem Hh{l:List RuI}(hl:l.length<=100000)(s:List Int):Ga N0 (l,(s,()))=some ((match l.findIdx? (λr=>decide (r.1=s))with|some j=>(j:Int)|none=>-1,()),()):=by
 unfold Ga
 simp only
 refine(zj l (λj=>((),((j:Int),()))) (λr=>decide (r.1=s)) (λj=>some (((j:Int),()),())) (some ((-1,()),())) (λj h k=>?_) (λk=>?_) N0 (gj hl)).trans ?_
 ·simp only
  rw[decide_eq_true (show(j:Int)<((l.length:Nat):Int) by omega),cond_true,if_pos (by omega),af,au h]
  simp only
  by_cases e:l[j].1=s
  ·rw[decide_eq_true e,cond_true,if_pos rfl]
  ·rw[decide_eq_false e,cond_false,if_neg (by simp),bg h (le_max hl)]
 ·simp only
  rw[decide_eq_false (by omega),cond_false]
 ·cases l.findIdx? (λr=>decide (r.1=s)) <;> rfl
abbrev Flt:=Int×(Int×Int)
theorem Jn{g:GrI}(ok:rL g):p90 N0 (g,())=some (((if 300<g.2.1.length then((6:Int),((2:Int),(g.2.1.length:Int)))else match cm (iR g) 0 g.2.1 with|some p=>(p.1,((2:Int),(p.2:Int)))|none=>((0:Int),((0:Int),(0:Int)))),()),()):=by
 unfold p90
 simp only
 by_cases h3:300<g.2.1.length
 ·rw[decide_eq_true (show(300:Int)<((g.2.1.length:Nat):Int) by omega),cond_true,if_pos h3]
 rw[decide_eq_false (show ¬(300:Int)<((g.2.1.length:Nat):Int) by omega),cond_false,if_neg h3]
 refine(o8 g.2.1 (λj=>((((0:Int),((0:Int),(0:Int))),()),((j:Int),()))) (iR g) (λe j=>some (((e,(2,(j:Int))),()),())) (some (((0,(0,0)),()),())) (λj h k=>?_) (λk=>?_) N0 (gj ok.s0)).trans ?_
 ·simp only
  have hs:=ok.s1 _ (bO h)
  rw[decide_eq_true (show(j:Int)<((g.2.1.length:Nat):Int) by omega),cond_true,if_pos (by omega),af,au h]
  simp only
  generalize g.2.1[j]=s at hs
  rw[aa (ui hs.1 hs.2)]
  simp only
  cases hn:gf s
  ·rw[zk hn,aG,cond_true,if_neg (by omega)]
  rw[az,cond_false]
  refine aQ ((((0:Int),((0:Int),(0:Int))),()),((g.2.1.take j).any (λx=>decide (x=s))||g.1.any (λr=>decide (r.1=s)),())) (λK=>?_) ?_
  ·rw[if_pos ⟨by omega,by omega,by omega⟩,sK _ _ (by omega),aa (Hg (by rw[aK];have:=ok.s0;omega) s)]
   simp only
   cases(g.2.1.take j).any (λx=>decide (x=s))
   ·rw[cond_false,aa (Hh ok.r0 s)]
    simp only
    rw[Ef,cR]
   ·rw[cond_true,jC]
  ·simp only
   cases h2:((g.2.1.take j).any (λx=>decide (x=s))||g.1.any (λr=>decide (r.1=s)))
   ·rw[zl hn h2,cond_false,if_pos rfl,bg h (le_max ok.s0)]
   ·rw[ul hn h2,cond_true,if_neg (by omega)]
 ·simp only
  rw[decide_eq_false (by omega),cond_false]
 ·cases cm (iR g) 0 g.2.1 <;> rfl
theorem Jo{g:GrI}(ok:rL g){i:Nat}{s:List Int}(hi:g.2.1[i]?=some s):p78 N0 (g,((i:Int),()))=some ((iR g i s,()),()):=by
 have hlt:i<g.2.1.length:=(bB.1 hi).1
 have hs:=ok.s1 _ (eT hi)
 have h0:=ok.s0
 unfold p78
 simp only
 rw[if_pos (by omega),af,hi]
 simp only
 rw[aa (uh hs.1 hs.2)]
 simp only
 cases hn:gf s
 ·rw[zk hn,aG,cond_true]
 rw[az,cond_false]
 have hlen:(g.2.1.take i).length=i:=by rw[aK];omega
 refine(du (g.2.1.take i) (λx=>!decide (x=s)) (some ((9,()),())) (if g.1.any (λr=>decide (r.1=s))=true then some ((9,()),())else some ((0,()),())) (λj=>((),((j:Int),()))) (λj h k=>?_) (λk=>?_) N0 (by rw[hlen];exact gj (by omega))).trans ?_
 ·simp only
  rw[decide_eq_true (show(j:Int)<(i:Int) by omega),cond_true,if_pos (by omega),af,au (show j<g.2.1.length by omega)]
  simp only
  rw[if_pos (show(0:Int)<=(i:Int) by omega)]
  rw[List.getElem_take]
  by_cases e:g.2.1[j]=s
  ·rw[decide_eq_true e,cond_true,if_neg (by simp)]
  ·rw[decide_eq_false e,cond_false,if_pos (by simp),bg (show j<g.2.1.length by omega) (le_max h0)]
 ·simp only
  rw[hlen,decide_eq_false (by omega),cond_false]
  refine(du g.1 (λr=>!decide (r.1=s)) (some ((9,()),())) (some ((0,()),())) (λj=>((),((j:Int),()))) (λj h k=>?_) (λk=>?_) N0 (gj ok.r0)).trans ?_
  ·simp only
   rw[decide_eq_true (show(j:Int)<((g.1.length:Nat):Int) by omega),cond_true,if_pos (by omega),af,au h]
   simp only
   rw[if_pos (show(0:Int)<=(i:Int) by omega)]
   by_cases e:g.1[j].1=s
   ·rw[decide_eq_true e,cond_true,if_neg (by simp)]
   ·rw[decide_eq_false e,cond_false,if_pos (by simp),bg h (le_max ok.r0)]
  ·simp only
   rw[decide_eq_false (by omega),cond_false]
  ·have:g.1.all (λr=>!decide (r.1=s))=!g.1.any (λr=>decide (r.1=s)):=by rw[List.not_any_eq_all_not]
   rw[this]
   cases g.1.any (λr=>decide (r.1=s)) <;> rfl
 ·have h1:(g.2.1.take i).all (λr=>!decide (r=s))=!(g.2.1.take i).any (λr=>decide (r=s)):=by rw[List.not_any_eq_all_not]
  rw[h1]
  cases h2:(g.2.1.take i).any (λr=>decide (r=s))
  ·rw[aG,if_pos rfl]
   cases h3:g.1.any (λr=>decide (r.1=s))
   ·rw[zl hn (by rw[h2,h3];rfl),if_neg (by simp)]
   ·rw[ul hn (by rw[h2,h3];rfl),if_pos rfl]
  ·rw[ul hn (by rw[h2];rfl),az,if_neg (by simp)]
end
noncomputable section
def nR(h:Int):Bool:=decide (0<=h/\h<=3)
def wO(g:GrI)(p:PrI):Int:=if ¬p.2.2.2.2.1=-1/\fu g (false,p.2.2.2.2.1)=false then 11 else if p.2.2.2.1=true/\lz p=false then 15 else 0
def wP(g:GrI)(p:PrI):Int:=if p.2.2.2.2.2.all nR=true then wO g p else 1
def wQ(g:GrI)(p:PrI):Int:=if p.2.2.1.all (fu g)=true then wP g p else 11
def lA(g:GrI)(i:Nat)(p:PrI):Int:=
 if p.1<0\/(g.2.1.length:Int)<=p.1 then 11 else if gf p.2.1=false then 8 else if 12<p.2.2.1.length then 6 else if ¬p.2.2.2.2.2.length=p.2.2.1.length-1 then 1
 else if(g.2.2.1.take i).all (λq=>!decide (q.2.1=p.2.1))=true then wQ g p else 9
theorem Bp{g:GrI}{n:Int}(h:n<0):fu g (false,n)=false:=by
 unfold fu
 rw[if_neg (by simp),decide_eq_false (by omega),dE]
theorem sL{n:Nat}(h:n<=100000):IntKind.wrap .i64 ((n:Int)-1)=(n:Int)-1:=bI (by omega) (by omega)
theorem Jp{g:GrI}(ok:rL g){i:Nat}{p:PrI}(hi:g.2.2.1[i]?=some p):p91 N0 (g,((i:Int),()))=some ((lA g i p,()),()):=by
 have hlt:i<g.2.2.1.length:=(bB.1 hi).1
 have hm:=eT hi
 have hs:=ok.p1 _ hm
 have hb:=ok.p2 _ hm
 have hh:=ok.p3 _ hm
 have h0:=ok.p0
 have hlen:(g.2.2.1.take i).length=i:=by rw[aK];omega
 unfold p91
 simp only
 rw[if_pos (by omega),af,hi]
 simp only
 refine aQ ((),(decide (p.1<0\/(g.2.1.length:Int)<=p.1),())) (λK=>?_) ?_
 ·by_cases q1:p.1<0
  ·rw[decide_eq_true q1,cond_true,decide_eq_true (.inl q1)]
  ·rw[decide_eq_false q1,cond_false]
   have:decide (p.1<0\/(g.2.1.length:Int)<=p.1)=decide ((g.2.1.length:Int)<=p.1):=by rw[decide_eq_decide];exact⟨λh=>h.resolve_left q1,.inr⟩
   rw[this]
 simp only
 unfold lA
 by_cases e1:p.1<0\/(g.2.1.length:Int)<=p.1
 ·rw[decide_eq_true e1,cond_true,if_pos e1]
 rw[decide_eq_false e1,cond_false,if_neg e1,aa (ui hs.1 hs.2)]
 simp only
 cases e2:gf p.2.1
 ·rw[aG,cond_true,if_pos rfl]
 rw[az,cond_false,if_neg (show ¬(true=false) by simp)]
 by_cases e3:12<p.2.2.1.length
 ·rw[decide_eq_true (show(12:Int)<((p.2.2.1.length:Nat):Int) by omega),cond_true,if_pos e3]
 rw[decide_eq_false (show ¬(12:Int)<((p.2.2.1.length:Nat):Int) by omega),cond_false,if_neg e3,sL hb]
 have hw:(if((p.2.2.1.length:Nat):Int)-1<0 then(0:Int)else((p.2.2.1.length:Nat):Int)-1)=((p.2.2.1.length-1:Nat):Int):=by split <;> omega
 rw[hw]
 by_cases e4:p.2.2.2.2.2.length=p.2.2.1.length-1
 case neg=>rw[decide_eq_false (show ¬((p.2.2.2.2.2.length:Nat):Int)=((p.2.2.1.length-1:Nat):Int) by omega),aG,cond_true,if_pos e4]
 rw[decide_eq_true (show((p.2.2.2.2.2.length:Nat):Int)=((p.2.2.1.length-1:Nat):Int) by omega),az,cond_false,if_neg (show ¬¬p.2.2.2.2.2.length=p.2.2.1.length-1 from λh=>h e4)]
 rw[if_pos ⟨by omega,by omega,by omega⟩,sK _ _ (by omega)]
 refine du (g.2.2.1.take i) (λq=>!decide (q.2.1=p.2.1)) (some ((9,()),())) (some ((wQ g p,()),())) (λj=>((),((j:Int),()))) (λj h k=>?_) (λk=>?_) N0 (by rw[hlen];exact gj (by omega)) |>.trans ?_
 ·simp only
  rw[decide_eq_true (show(j:Int)<(((g.2.2.1.take i).length:Nat):Int) by omega),cond_true,if_pos (by omega),af,au h]
  simp only
  by_cases e:(g.2.2.1.take i)[j].2.1=p.2.1
  ·rw[decide_eq_true e,cond_true,if_neg (by simp)]
  ·rw[decide_eq_false e,cond_false,if_pos (by simp),bg h (le_max (by omega))]
 ·simp only
  rw[decide_eq_false (by omega),cond_false]
  refine du p.2.2.1 (fu g) (some ((11,()),())) (some ((wP g p,()),())) (λj=>((),((j:Int),()))) (λj h k=>?_) (λk=>?_) N0 (gj hb) |>.trans ?_
  ·simp only
   rw[decide_eq_true (show(j:Int)<((p.2.2.1.length:Nat):Int) by omega),cond_true,if_pos (by omega),af,au h]
   simp only
   rw[aa (uj g _)]
   simp only
   cases fu g p.2.2.1[j]
   ·rw[aG,cond_true,if_neg (by simp)]
   ·rw[az,cond_false,if_pos rfl,bg h (le_max hb)]
  ·simp only
   rw[decide_eq_false (by omega),cond_false]
   refine du p.2.2.2.2.2 nR (some ((1,()),())) (some ((wO g p,()),())) (λj=>((),((j:Int),()))) (λj h k=>?_) (λk=>?_) N0 (gj hh) |>.trans ?_
   ·simp only
    rw[decide_eq_true (show(j:Int)<((p.2.2.2.2.2.length:Nat):Int) by omega),cond_true,if_pos (by omega),af,au h]
    simp only
    generalize p.2.2.2.2.2[j]=v
    refine aQ ((),(!nR v,())) (λK=>?_) ?_
    ·unfold nR
     by_cases q1:v<0
     ·rw[decide_eq_true q1,cond_true,decide_eq_false (by omega)];rfl
     ·rw[decide_eq_false q1,cond_false]
      have:(!decide (0<=v/\v<=3))=decide (3<v):=by
       rw[<-decide_not,decide_eq_decide];omega
      rw[this]
    ·simp only
     cases nR v
     ·rw[aG,cond_true,if_neg (by simp)]
     ·rw[az,cond_false,if_pos rfl,bg h (le_max hh)]
   ·simp only
    rw[decide_eq_false (by omega),cond_false]
    unfold wO
    refine aQ ((),(decide (¬p.2.2.2.2.1=-1/\fu g (false,p.2.2.2.2.1)=false),())) (λK=>?_) ?_
    ·by_cases q1:p.2.2.2.2.1=-1
     ·rw[decide_eq_true q1,az,cond_false,decide_eq_false (λh=>h.1 q1)]
     ·rw[decide_eq_false q1,aG,cond_true]
      by_cases q2:p.2.2.2.2.1<0
      ·rw[decide_eq_true q2,cond_true,decide_eq_true ⟨q1,Bp q2⟩]
      ·rw[decide_eq_false q2,cond_false,aa (uj g _)]
       simp only
       cases fu g (false,p.2.2.2.2.1)
       ·rw[decide_eq_true ⟨q1,rfl⟩];rfl
       ·rw[decide_eq_false (λh=>by cases h.2)];rfl
    ·simp only
     by_cases q1:¬p.2.2.2.2.1=-1/\fu g (false,p.2.2.2.2.1)=false
     ·rw[decide_eq_true q1,cond_true,if_pos q1]
     rw[decide_eq_false q1,cond_false,if_neg q1]
     refine aQ ((),(decide (p.2.2.2.1=true/\lz p=false),())) (λK=>?_) ?_
     ·cases hp:p.2.2.2.1
      ·rw[cond_false,decide_eq_false (λh=>by cases h.1)]
      ·rw[cond_true,aa (Hd p)]
       simp only
       cases lz p <;> simp
     ·simp only
      by_cases q2:p.2.2.2.1=true/\lz p=false
      ·rw[decide_eq_true q2,cond_true,if_pos q2]
      ·rw[decide_eq_false q2,cond_false,if_neg q2]
   ·unfold wP;split <;> rfl
  ·unfold wQ;split <;> rfl
 ·split <;> rfl
theorem Jq{g:GrI}(ok:rL g){i:Nat}{p:PrI}(hi:g.2.2.1[i]?=some p):p79 N0 (g,((i:Int),()))=some ((lA g i p,()),()):=by
 have hlt:i<g.2.2.1.length:=(bB.1 hi).1
 have hm:=eT hi
 have hs:=ok.p1 _ hm
 have hb:=ok.p2 _ hm
 have hh:=ok.p3 _ hm
 have h0:=ok.p0
 have hlen:(g.2.2.1.take i).length=i:=by rw[aK];omega
 unfold p79
 simp only
 rw[if_pos (by omega),af,hi]
 simp only
 refine aQ ((),(decide (p.1<0\/(g.2.1.length:Int)<=p.1),())) (λK=>?_) ?_
 ·by_cases q1:p.1<0
  ·rw[decide_eq_true q1,cond_true,decide_eq_true (.inl q1)]
  ·rw[decide_eq_false q1,cond_false]
   have:decide (p.1<0\/(g.2.1.length:Int)<=p.1)=decide ((g.2.1.length:Int)<=p.1):=by rw[decide_eq_decide];exact⟨λh=>h.resolve_left q1,.inr⟩
   rw[this]
 simp only
 unfold lA
 by_cases e1:p.1<0\/(g.2.1.length:Int)<=p.1
 ·rw[decide_eq_true e1,cond_true,if_pos e1]
 rw[decide_eq_false e1,cond_false,if_neg e1,aa (uh hs.1 hs.2)]
 simp only
 cases e2:gf p.2.1
 ·rw[aG,cond_true,if_pos rfl]
 rw[az,cond_false,if_neg (show ¬(true=false) by simp)]
 by_cases e3:12<p.2.2.1.length
 ·rw[decide_eq_true (show(12:Int)<((p.2.2.1.length:Nat):Int) by omega),cond_true,if_pos e3]
 rw[decide_eq_false (show ¬(12:Int)<((p.2.2.1.length:Nat):Int) by omega),cond_false,if_neg e3,sL hb]
 have hw:(if(0:Int)<((p.2.2.1.length:Nat):Int)-1 then((p.2.2.1.length:Nat):Int)-1 else(0:Int))=((p.2.2.1.length-1:Nat):Int):=by split <;> omega
 rw[hw]
 by_cases e4:p.2.2.2.2.2.length=p.2.2.1.length-1
 case neg=>rw[decide_eq_false (show ¬((p.2.2.2.2.2.length:Nat):Int)=((p.2.2.1.length-1:Nat):Int) by omega),aG,cond_true,if_pos e4]
 rw[decide_eq_true (show((p.2.2.2.2.2.length:Nat):Int)=((p.2.2.1.length-1:Nat):Int) by omega),az,cond_false,if_neg (show ¬¬p.2.2.2.2.2.length=p.2.2.1.length-1 from λh=>h e4)]
 refine du (g.2.2.1.take i) (λq=>!decide (q.2.1=p.2.1)) (some ((9,()),())) (some ((wQ g p,()),())) (λj=>((),((j:Int),()))) (λj h k=>?_) (λk=>?_) N0 (by rw[hlen];exact gj (by omega)) |>.trans ?_
 ·simp only
  rw[decide_eq_true (show(j:Int)<(i:Int) by omega),cond_true,if_pos (by omega),af,au (show j<g.2.2.1.length by omega)]
  simp only
  rw[List.getElem_take]
  by_cases e:g.2.2.1[j].2.1=p.2.1
  ·rw[decide_eq_true e,cond_true,if_neg (by simp)]
  ·rw[decide_eq_false e,cond_false,if_pos (by simp),bg h (le_max (by omega))]
 ·simp only
  rw[hlen,decide_eq_false (by omega),cond_false]
  refine du p.2.2.1 (fu g) (some ((11,()),())) (some ((wP g p,()),())) (λj=>((),((j:Int),()))) (λj h k=>?_) (λk=>?_) N0 (gj hb) |>.trans ?_
  ·simp only
   rw[decide_eq_true (show(j:Int)<((p.2.2.1.length:Nat):Int) by omega),cond_true,if_pos (by omega),af,au h]
   simp only
   rw[aa (uk g _)]
   simp only
   cases fu g p.2.2.1[j]
   ·rw[aG,cond_true,if_neg (by simp)]
   ·rw[az,cond_false,if_pos rfl,bg h (le_max hb)]
  ·simp only
   rw[decide_eq_false (by omega),cond_false]
   refine du p.2.2.2.2.2 nR (some ((1,()),())) (some ((wO g p,()),())) (λj=>((),((j:Int),()))) (λj h k=>?_) (λk=>?_) N0 (gj hh) |>.trans ?_
   ·simp only
    rw[decide_eq_true (show(j:Int)<((p.2.2.2.2.2.length:Nat):Int) by omega),cond_true]
    have hg:p.2.2.2.2.2[((j:Int)).toNat]?=some p.2.2.2.2.2[j]:=by rw[af];exact au h
    rw[hg]
    generalize p.2.2.2.2.2[j]=v
    simp only
    refine aQ ((),(!nR v,())) (λK=>?_) ?_
    ·rw[if_pos (by omega)]
     unfold nR
     by_cases q1:v<0
     ·rw[decide_eq_true q1,cond_true,decide_eq_false (by omega)];rfl
     ·rw[decide_eq_false q1,cond_false]
      have:(!decide (0<=v/\v<=3))=decide (3<v):=by
       rw[<-decide_not,decide_eq_decide];omega
      rw[this,if_pos (by omega)]
    ·simp only
     cases nR v
     ·rw[aG,cond_true,if_neg (by simp)]
     ·rw[az,cond_false,if_pos rfl,bg h (le_max hh)]
   ·simp only
    rw[decide_eq_false (by omega),cond_false]
    unfold wO
    refine aQ ((),(decide (¬p.2.2.2.2.1=-1/\fu g (false,p.2.2.2.2.1)=false),())) (λK=>?_) ?_
    ·by_cases q1:p.2.2.2.2.1=-1
     ·rw[decide_eq_true q1,az,cond_false,decide_eq_false (λh=>h.1 q1)]
     ·rw[decide_eq_false q1,aG,cond_true,aa (uk g _)]
      simp only
      cases fu g (false,p.2.2.2.2.1)
      ·rw[decide_eq_true ⟨q1,rfl⟩];rfl
      ·rw[decide_eq_false (λh=>by cases h.2)];rfl
    ·simp only
     by_cases q1:¬p.2.2.2.2.1=-1/\fu g (false,p.2.2.2.2.1)=false
     ·rw[decide_eq_true q1,cond_true,if_pos q1]
     rw[decide_eq_false q1,cond_false,if_neg q1]
     refine aQ ((),(decide (p.2.2.2.1=true/\lz p=false),())) (λK=>?_) ?_
     ·cases hp:p.2.2.2.1
      ·rw[cond_false,decide_eq_false (λh=>by cases h.1)]
      ·rw[cond_true,aa (He p)]
       simp only
       cases lz p <;> simp
     ·simp only
      by_cases q2:p.2.2.2.1=true/\lz p=false
      ·rw[decide_eq_true q2,cond_true,if_pos q2]
      ·rw[decide_eq_false q2,cond_false,if_neg q2]
   ·unfold wP;split <;> rfl
  ·unfold wQ;split <;> rfl
 ·split <;> rfl
end
noncomputable section
def ahead(g:GrI)(i:Nat):List Int:=(g.2.2.2.1.take i).flatMap λl=>l.2
theorem rm{g:GrI}{i:Nat}{l:LvI}(h:g.2.2.2.1[i]?=some l):ahead g (i+1)=ahead g i++l.2:=by
 unfold ahead
 rw[il,h]
 simp
def rn(g:GrI)(i:Nat)(l:LvI)(k:Nat)(r:Int):Int:=
 if fu g (false,r)=false then 11 else if r∈ahead g i++l.2.take k then 9 else 0
def nS(g:GrI)(i:Nat)(l:LvI):Int:=
 if l.1<1\/3<l.1\/l.2.length=0\/60<=i then 1 else match cm (rn g i l) 0 l.2 with|some p=>p.1|none=>0
abbrev IM:=List (Int×Int)
def eqZ:Int->Int->Bool:=λa b=>decide (a=b)
theorem Br(k k' v:Int):∀ x:IM,cW eqZ k (fB eqZ k' v x)=if k=k' then v else cW eqZ k x:=by
 intro x
 induction x with
 |nil=>
  simp only[fB,cW,eqZ]
  by_cases e:k=k' <;> simp[e]
 |cons p r ih=>
  simp only[fB]
  by_cases e:k'=p.1
  ·have:eqZ k' p.1=true:=decide_eq_true e
   rw[this,cond_true]
   simp only[cW]
   rw[<-e]
   by_cases e2:k=k'
   ·rw[show eqZ k k'=true from decide_eq_true e2,if_pos e2];rfl
   ·rw[show eqZ k k'=false from decide_eq_false e2,if_neg e2];rfl
  ·have:eqZ k' p.1=false:=decide_eq_false e
   rw[this,cond_false]
   simp only[cW]
   by_cases e2:k=p.1
   ·rw[show eqZ k p.1=true from decide_eq_true e2,cond_true,cond_true]
    rw[if_neg]
    rintro rfl
    exact e e2
   ·rw[show eqZ k p.1=false from decide_eq_false e2,cond_false,cond_false,ih]
def wR(L:List Int)(m:IM):Prop:=∀ k,cW eqZ k m=if k∈L then 1 else 0
theorem wR.next{L:List Int}{m:IM}(h:wR L m){r:Int}(hr:¬r∈L):wR (L++[r]) (fB eqZ r (IntKind.wrap .i64 (cW eqZ r m+1)) m):=by
 intro k
 rw[Br,h r,if_neg hr]
 by_cases e:k=r
 ·subst e;simp;rfl
 ·rw[if_neg e,h k];simp[e]
theorem zm{α A R:Type}{body:A->(A->Option R)->Option R}(l:List α)(I:Nat->A->Prop)(spec:Nat->Option R)
 (step:∀ j,(h:j<l.length)->∀ x,I j x->∀ k,(∀ y,I (j+1) y->k y=spec (j+1))->body x k=spec j) (fin:∀ x,I l.length x->∀ k,body x k=spec l.length):
 ∀ n j x,j<=l.length->l.length-j<n->I j x->aA body n x=spec j:=by
 intro n
 induction n with
 |zero=>intro j x _ h;omega
 |succ n ih=>
  intro j x hj hn hi
  rw[ew]
  rcases av j l.length with h|h
  ·exact step j h x hi _ (λy hy=>ih (j+1) y h (by omega) hy)
  ·have:j=l.length:=by omega
   subst this
   exact fin x hi _
theorem Jr{g:GrI}(ok:rL g):p92 N0 (g,())=some (((match cm (nS g) 0 g.2.2.2.1 with|some p=>(p.1,((4:Int),(p.2:Int)))|none=>((0:Int),((0:Int),(0:Int)))),()),()):=by
 unfold p92
 simp only
 rw[show(λ(a b:Int)=>decide (a=b))=eqZ from rfl]
 refine(zm g.2.2.2.1 (λj x=>∃ m:IM,x=((((0:Int),((0:Int),(0:Int))),(m,())),((j:Int),()))/\wR (ahead g j) m) (λj=>some (((match cm (nS g) j (g.2.2.2.1.drop j)with|some p=>(p.1,((4:Int),(p.2:Int)))|none=>((0:Int),((0:Int),(0:Int)))),()),())) (λj h x hx k hk=>?_) (λx hx k=>?_) N0 0 _ (bT _) (by rw[Nat.sub_zero];exact gj ok.l0) ⟨[],rfl,λk=>by simp[cW,ahead]⟩).trans (by rw[da])
 ·obtain⟨m,rfl,hm⟩:=hx
  simp only
  have hl:=ok.l1 _ (bO h)
  have hg:g.2.2.2.1[j]?=some g.2.2.2.1[j]:=au h
  rw[decide_eq_true (show(j:Int)<((g.2.2.2.1.length:Nat):Int) by omega),cond_true,if_pos (by omega),af,hg,dB h]
  generalize g.2.2.2.1[j]=l at hl hg
  simp only
  refine aQ ((((0:Int),((0:Int),(0:Int))),(m,())),(decide (l.1<1\/3<l.1\/l.2.length=0\/60<=j),())) (λK=>?_) ?_
  ·by_cases q1:l.1<1
   ·rw[decide_eq_true q1,cond_true,decide_eq_true (.inl q1)]
   rw[decide_eq_false q1,cond_false]
   by_cases q2:3<l.1
   ·rw[decide_eq_true q2,cond_true,decide_eq_true (.inr (.inl q2))]
   rw[decide_eq_false q2,cond_false]
   by_cases q3:l.2.length=0
   ·rw[decide_eq_true (show((l.2.length:Nat):Int)=0 by omega),cond_true,decide_eq_true (.inr (.inr (.inl q3)))]
   rw[decide_eq_false (show ¬((l.2.length:Nat):Int)=0 by omega),cond_false]
   have:decide ((60:Int)<=(j:Int))=decide (l.1<1\/3<l.1\/l.2.length=0\/60<=j):=by rw[decide_eq_decide];omega
   rw[this]
  ·simp only
   simp only[cm]
   by_cases q:l.1<1\/3<l.1\/l.2.length=0\/60<=j
   ·have e1:nS g j l=1:=by unfold nS;rw[if_pos q]
    rw[decide_eq_true q,cond_true,e1,if_neg (by omega)]
   have e1:nS g j l=match cm (rn g j l) 0 l.2 with|some p=>p.1|none=>0:=by unfold nS;rw[if_neg q]
   rw[decide_eq_false q,cond_false]
   have hz:∀ k,rn g j l k=λr=>rn g j l k r:=λ_=>rfl
   refine(zm l.2 (λi x=>∃ m:IM,x=((((0:Int),((0:Int),(0:Int))),(m,())),((i:Int),()))/\wR (ahead g j++l.2.take i) m) (λi=>match cm (rn g j l) i (l.2.drop i)with|some p=>some (((p.1,((4:Int),(j:Int))),()),())|none=>some (((match cm (nS g) (j+1) (g.2.2.2.1.drop (j+1))with|some p=>(p.1,((4:Int),(p.2:Int)))|none=>((0:Int),((0:Int),(0:Int)))),()),())) (λi hi x hx k2 hk2=>?_) (λx hx k2=>?_) N0 0 _ (bT _) (by rw[Nat.sub_zero];exact gj hl) ⟨m,rfl,by rw[List.take_zero,cQ];exact hm⟩).trans ?_
   ·obtain⟨m,rfl,hm⟩:=hx
    simp only
    have hgi:l.2[i]?=some l.2[i]:=au hi
    have htk:l.2.take (i+1)=l.2.take i++[l.2[i]]:=by rw[il,hgi];rfl
    rw[decide_eq_true (show(i:Int)<((l.2.length:Nat):Int) by omega),cond_true,if_pos (by omega),af,hgi,dB hi]
    generalize l.2[i]=r at htk
    simp only
    rw[aa (uj g _)]
    simp only[cm]
    unfold rn
    cases hs:fu g (false,r)
    ·rw[aG,cond_true,if_pos rfl,if_neg (by omega)]
    rw[az,cond_false,if_neg (show ¬(true=false) by simp),hm r]
    by_cases hr:r∈ahead g j++l.2.take i
    ·rw[if_pos hr,if_pos hr,show decide ((0:Int)<1)=true from rfl,cond_true,if_neg (by omega)]
    ·rw[if_neg hr,if_neg hr,show decide ((0:Int)<0)=false from rfl,cond_false,if_pos rfl,bg hi (le_max hl)]
     have hn:=hm.next hr
     rw[hm r,if_neg hr]at hn
     exact hk2 _ ⟨_,rfl,by rw[htk,<-aT];exact hn⟩
   ·obtain⟨m,rfl,hm⟩:=hx
    simp only
    rw[decide_eq_false (by omega),cond_false,bg h (le_max ok.l0),eE]
    simp only[cm]
    rw[cN]at hm
    exact hk _ ⟨m,rfl,by rw[rm hg];exact hm⟩
   ·rw[da]
    rw[e1]
    have hne:∀ (l':List Int) (i:Nat) (p:Int×Nat),cm (rn g j l) i l'=some p->¬p.1=0:=by
     intro l'
     induction l' with
     |nil=>intro i p h;cases h
     |cons a r ih=>
      intro i p h
      simp only[cm]at h
      split at h
      ·exact ih _ _ h
      ·rename_i hn;injection h with h;rw[<-h];exact hn
    cases hf:cm (rn g j l) 0 l.2 with
    |none=>simp only[if_true]
    |some p=>
     simp only
     rw[if_neg (hne _ _ _ hf)]
 ·obtain⟨m,rfl,hm⟩:=hx
  simp only
  rw[decide_eq_false (by omega),cond_false,eE]
  rfl
end
noncomputable section
theorem Bs{g:GrI}{i:Nat}{r:Int}:r∈ahead g i↔∃ a l,a<i/\g.2.2.2.1[a]?=some l/\r∈l.2:=by
 unfold ahead
 rw[List.mem_flatMap]
 constructor
 ·rintro⟨l,h1,h2⟩
  obtain⟨a,ha⟩:=jw.1 h1
  rw[dD]at ha
  split at ha
  ·exact⟨a,l,by assumption,ha,h2⟩
  ·cases ha
 ·rintro⟨a,l,h1,h2,h3⟩
  refine⟨l,jw.2 ⟨a,?_⟩,h3⟩
  rw[dD,if_pos h1,h2]
theorem Hi{g:GrI}(ok:rL g){i:Nat}{l:LvI}(hi:g.2.2.2.1[i]?=some l){k:Nat}{r:Int}(hk:l.2[k]?=some r):IQ N0 (g,((i:Int),((k:Int),())))=some ((decide (r∈ahead g i++l.2.take k),()),()):=by
 have hlt:i<g.2.2.2.1.length:=(bB.1 hi).1
 have hkt:k<l.2.length:=(bB.1 hk).1
 have h0:=ok.l0
 unfold IQ
 simp only
 refine ba (λm x q=>∃ a:Nat,x=((),((a:Int),()))/\m+a=i+1/\a<=i/\¬r∈ahead g a/\q=some ((decide (r∈ahead g i++l.2.take k),()),())) ?_ N0 (i+1) _ _ (by unfold N0;omega) ⟨0,rfl,rfl,bT _,by simp[ahead],rfl⟩
 rintro m x q ⟨a,rfl,hm,hai,hna,rfl⟩ kk hkk
 simp only
 rw[decide_eq_true (show(a:Int)<=(i:Int) by omega),cond_true]
 have ha:g.2.2.2.1[a]?=some (g.2.2.2.1[a]'(by omega)):=au _
 have hla:=ok.l1 _ (bO (show a<g.2.2.2.1.length by omega))
 generalize g.2.2.2.1[a]'(by omega)=la at ha hla
 simp only[af,ha,hi]
 refine ba (λm x q=>∃ b:Nat,x=((),((b:Int),()))/\m+b=la.2.length/\¬r∈la.2.take b/\(a=i->b<=k)/\q=some ((decide (r∈ahead g i++l.2.take k),()),())) ?_ N0 la.2.length _ _ (by unfold N0;omega) ⟨0,rfl,rfl,by simp,λ_=>bT _,rfl⟩
 rintro m2 x q ⟨b,rfl,hm2,hnb,hbk,rfl⟩ k2 hk2
 simp only[af]
 rw[if_pos (by omega)]
 rcases av b la.2.length with hb|hb
 ·rw[decide_eq_true (show(b:Int)<((la.2.length:Nat):Int) by omega),cond_true]
  have hgb:la.2[b]?=some la.2[b]:=au hb
  have htk:la.2.take (b+1)=la.2.take b++[la.2[b]]:=by rw[il,hgb];rfl
  have hin:la.2[b]∈la.2:=bO hb
  simp only[hgb,hk]
  generalize la.2[b]=rb at htk hin hgb
  refine aQ ((),(decide (a=i/\k<=b),())) (λK=>?_) ?_
  ·by_cases e:a=i
   ·rw[decide_eq_true (show(a:Int)=(i:Int) by omega),cond_true]
    have:decide ((k:Int)<=(b:Int))=decide (a=i/\k<=b):=by rw[decide_eq_decide];omega
    rw[this]
   ·rw[decide_eq_false (show ¬(a:Int)=(i:Int) by omega),cond_false,decide_eq_false (λh=>e h.1)]
  ·simp only
   by_cases e:a=i/\k<=b
   ·rw[decide_eq_true e,cond_true]
    obtain⟨rfl,hkb⟩:=e
    have hbk:=hbk rfl
    have:b=k:=by omega
    subst this
    rw[hi]at ha
    injection ha with ha
    subst ha
    rw[decide_eq_false (λh=>(aC.1 h).elim hna hnb)]
   ·rw[decide_eq_false e,cond_false,if_pos (by omega),if_pos (by omega),if_pos (by omega),if_pos (by omega)]
    by_cases er:rb=r
    ·subst er
     rw[decide_eq_true rfl,cond_true,decide_eq_true]
     by_cases eai:a=i
     ·subst eai
      rw[hi]at ha
      injection ha with ha
      subst ha
      refine aC.2 (.inr (jw.2 ⟨b,?_⟩))
      rw[dD,if_pos (by omega),hgb]
     ·exact aC.2 (.inl (Bs.2 ⟨a,la,by omega,ha,hin⟩))
    ·rw[decide_eq_false er,cond_false,bg hb (le_max hla)]
     refine hk2 (m2-1) _ _ (by omega) ⟨b+1,rfl,by omega,?_,λh=>by omega,rfl⟩
     rw[htk]
     intro h
     rcases aC.1 h with h|h
     ·exact hnb h
     ·simp at h;exact er h.symm
 ·rw[decide_eq_false (show ¬(b:Int)<((la.2.length:Nat):Int) by omega),cond_false,bg (show a<g.2.2.2.1.length by omega) (le_max h0)]
  have:b=la.2.length:=by omega
  subst this
  rw[cN]at hnb
  have CF:¬r∈ahead g (a+1):=by
   rw[rm ha]
   intro h
   exact(aC.1 h).elim hna hnb
  have NT:a<i:=by
   rcases av a i with h|h
   ·exact h
   ·exfalso
    have:a=i:=by omega
    subst this
    rw[hi]at ha
    injection ha with ha
    subst ha
    have:=hbk rfl
    omega
  exact hkk (m-1) _ _ (by omega) ⟨a+1,rfl,by omega,by omega,CF,rfl⟩
theorem Js{g:GrI}(ok:rL g){i:Nat}{l:LvI}(hi:g.2.2.2.1[i]?=some l):p80 N0 (g,((i:Int),()))=some ((nS g i l,()),()):=by
 have hl:=ok.l1 _ (eT hi)
 unfold p80
 simp only
 rw[if_pos (by omega),af,hi]
 simp only
 refine aQ ((),(decide (l.1<1\/3<l.1\/l.2.length=0\/60<=i),())) (λK=>?_) ?_
 ·by_cases q1:l.1<1
  ·rw[decide_eq_true q1,cond_true,decide_eq_true (.inl q1)]
  rw[decide_eq_false q1,cond_false]
  by_cases q2:3<l.1
  ·rw[decide_eq_true q2,cond_true,decide_eq_true (.inr (.inl q2))]
  rw[decide_eq_false q2,cond_false]
  by_cases q3:l.2.length=0
  ·rw[decide_eq_true (show((l.2.length:Nat):Int)=0 by omega),cond_true,decide_eq_true (.inr (.inr (.inl q3)))]
  rw[decide_eq_false (show ¬((l.2.length:Nat):Int)=0 by omega),cond_false]
  have:decide ((60:Int)<=(i:Int))=decide (l.1<1\/3<l.1\/l.2.length=0\/60<=i):=by rw[decide_eq_decide];omega
  rw[this]
 ·simp only
  unfold nS
  by_cases q:l.1<1\/3<l.1\/l.2.length=0\/60<=i
  ·rw[decide_eq_true q,cond_true,if_pos q]
  rw[decide_eq_false q,cond_false,if_neg q]
  refine(o8 l.2 (λj=>((),((j:Int),()))) (rn g i l) (λe _=>some ((e,()),())) (some ((0,()),())) (λj h k=>?_) (λk=>?_) N0 (gj hl)).trans ?_
  ·simp only
   have hg:l.2[j]?=some l.2[j]:=au h
   rw[decide_eq_true (show(j:Int)<((l.2.length:Nat):Int) by omega),cond_true,if_pos (by omega),af,hg]
   generalize l.2[j]=r at hg
   simp only
   rw[aa (uk g _)]
   simp only
   unfold rn
   cases hs:fu g (false,r)
   ·rw[aG,cond_true,if_pos rfl,if_neg (by omega)]
   rw[az,cond_false,if_neg (show ¬(true=false) by simp),aa (Hi ok hi hg)]
   simp only
   by_cases hr:r∈ahead g i++l.2.take j
   ·rw[if_pos hr,decide_eq_true hr,cond_true,if_neg (by omega)]
   ·rw[if_neg hr,decide_eq_false hr,cond_false,if_pos rfl,bg h (le_max hl)]
  ·simp only
   rw[decide_eq_false (by omega),cond_false]
  ·cases cm (rn g i l) 0 l.2 <;> rfl
def zn(g:GrI):Flt:=if g.2.2.2.2<0\/(g.2.1.length:Int)<=g.2.2.2.2 then(11,(5,0))else(0,(0,0))
def wS(g:GrI):Flt:=match cm (nS g) 0 g.2.2.2.1 with
 |some p=>(p.1,(4,(p.2:Int)))
 |none=>zn g
def zo(g:GrI):Flt:=if 200<g.2.2.1.length then(6,(3,(g.2.2.1.length:Int)))else match cm (lA g) 0 g.2.2.1 with
 |some p=>(p.1,(3,(p.2:Int)))
 |none=>wS g
def zp(g:GrI):Flt:=if 300<g.2.1.length then(6,(2,(g.2.1.length:Int)))else match cm (iR g) 0 g.2.1 with
 |some p=>(p.1,(2,(p.2:Int)))
 |none=>zo g
def kG(g:GrI):Flt:=
 if ¬(jY g.1).2=0 then((jY g.1).2,(1,((jY g.1).1:Int)))else zp g
def gP(v:Flt):Option ((Int×(Int×(Int×Unit)))×Unit):=some ((v.1,(v.2.1,(v.2.2,()))),())
theorem sM{α:Type}{E:Nat->α->Int}:∀ {l:List α} {i:Nat} {p:Int×Nat},cm E i l=some p->¬p.1=0:=by
 intro l
 induction l with
 |nil=>intro i p h;cases h
 |cons a r ih=>
  intro i p h
  simp only[cm]at h
  split at h
  ·exact ih h
  ·rename_i hn;injection h with h;rw[<-h];exact hn
theorem Jt{g:GrI}(ok:rL g)(h12:∀ r∈g.1,r.2.2.length<=12):p43 N0 (g,())=some ((kG g,()),()):=by
 unfold p43 kG
 simp only
 rw[aa (Jm (le_max ok.r0) ok.r1 h12)]
 simp only
 by_cases e1:(jY g.1).2=0
 case neg=>rw[decide_eq_false e1,aG,cond_true,if_pos e1]
 rw[decide_eq_true e1,az,cond_false,if_neg (show ¬¬(jY g.1).2=0 from λh=>h e1),aa (Jn ok)]
 simp only
 unfold zp
 by_cases e2:300<g.2.1.length
 ·rw[if_pos e2,if_pos e2];rfl
 rw[if_neg e2,if_neg e2]
 cases e3:cm (iR g) 0 g.2.1 with
 |some p=>
  simp only
  rw[decide_eq_false (sM e3),aG,cond_true]
 |none=>
 simp only
 rw[decide_true,az,cond_false]
 unfold zo
 by_cases e4:200<g.2.2.1.length
 ·rw[decide_eq_true (show(200:Int)<((g.2.2.1.length:Nat):Int) by omega),cond_true,if_pos e4]
 rw[decide_eq_false (show ¬(200:Int)<((g.2.2.1.length:Nat):Int) by omega),cond_false,if_neg e4]
 refine(o8 g.2.2.1 (λj=>((((0:Int),((0:Int),(0:Int))),()),((j:Int),()))) (lA g) (λe j=>some (((e,(3,(j:Int))),()),())) (some ((wS g,()),())) (λj h k=>?_) (λk=>?_) N0 (gj ok.p0)).trans ?_
 ·simp only
  rw[decide_eq_true (show(j:Int)<((g.2.2.1.length:Nat):Int) by omega),cond_true,aa (Jp ok (au h))]
  simp only
  by_cases e:lA g j g.2.2.1[j]=0
  ·rw[decide_eq_true e,az,cond_false,if_pos e,bg h (le_max ok.p0)]
  ·rw[decide_eq_false e,aG,cond_true,if_neg e]
 ·simp only
  rw[decide_eq_false (by omega),cond_false,aa (Jr ok)]
  simp only
  unfold wS
  cases e5:cm (nS g) 0 g.2.2.2.1 with
  |some p=>
   simp only
   rw[decide_eq_false (sM e5),aG,cond_true]
  |none=>
   simp only
   rw[decide_true,az,cond_false]
   refine aQ ((((0:Int),((0:Int),(0:Int))),()),(decide (g.2.2.2.2<0\/(g.2.1.length:Int)<=g.2.2.2.2),())) (λK=>?_) ?_
   ·by_cases q1:g.2.2.2.2<0
    ·rw[decide_eq_true q1,cond_true,decide_eq_true (.inl q1)]
    ·rw[decide_eq_false q1,cond_false]
     have:decide (g.2.2.2.2<0\/(g.2.1.length:Int)<=g.2.2.2.2)=decide ((g.2.1.length:Int)<=g.2.2.2.2):=by rw[decide_eq_decide];exact⟨λh=>h.resolve_left q1,.inr⟩
     rw[this]
   ·simp only
    unfold zn
    by_cases q:g.2.2.2.2<0\/(g.2.1.length:Int)<=g.2.2.2.2
    ·rw[decide_eq_true q,cond_true,if_pos q]
    ·rw[decide_eq_false q,cond_false,if_neg q]
 ·cases cm (lA g) 0 g.2.2.1 <;> rfl
theorem Ju{g:GrI}(ok:rL g):p37 N0 (g,())=some (((kG g).1,((kG g).2.1,((kG g).2.2,()))),()):=by
 unfold p37 kG
 simp only
 rw[aa (Jl (le_max ok.r0) ok.r1)]
 simp only
 by_cases e1:(jY g.1).2=0
 case neg=>rw[decide_eq_false e1,aG,cond_true,if_pos e1]
 rw[decide_eq_true e1,az,cond_false,if_neg (show ¬¬(jY g.1).2=0 from λh=>h e1)]
 show _=gP (zp g)
 unfold zp
 by_cases e2:300<g.2.1.length
 ·rw[decide_eq_true (show(300:Int)<((g.2.1.length:Nat):Int) by omega),cond_true,if_pos e2];rfl
 rw[decide_eq_false (show ¬(300:Int)<((g.2.1.length:Nat):Int) by omega),cond_false,if_neg e2]
 refine(o8 g.2.1 (λj=>((),((j:Int),()))) (iR g) (λe j=>gP (e,(2,(j:Int)))) (gP (zo g)) (λj h k=>?_) (λk=>?_) N0 (gj ok.s0)).trans ?_
 ·simp only
  rw[decide_eq_true (show(j:Int)<((g.2.1.length:Nat):Int) by omega),cond_true,aa (Jo ok (au h))]
  simp only
  by_cases e:iR g j g.2.1[j]=0
  ·rw[decide_eq_true e,az,cond_false,if_pos e,bg h (le_max ok.s0)]
  ·rw[decide_eq_false e,aG,cond_true,if_neg e];rfl
 ·simp only
  rw[decide_eq_false (by omega),cond_false]
  unfold zo
  by_cases e4:200<g.2.2.1.length
  ·rw[decide_eq_true (show(200:Int)<((g.2.2.1.length:Nat):Int) by omega),cond_true,if_pos e4];rfl
  rw[decide_eq_false (show ¬(200:Int)<((g.2.2.1.length:Nat):Int) by omega),cond_false,if_neg e4]
  refine(o8 g.2.2.1 (λj=>((),((j:Int),()))) (lA g) (λe j=>gP (e,(3,(j:Int)))) (gP (wS g)) (λj h k=>?_) (λk=>?_) N0 (gj ok.p0)).trans ?_
  ·simp only
   rw[decide_eq_true (show(j:Int)<((g.2.2.1.length:Nat):Int) by omega),cond_true,aa (Jq ok (au h))]
   simp only
   by_cases e:lA g j g.2.2.1[j]=0
   ·rw[decide_eq_true e,az,cond_false,if_pos e,bg h (le_max ok.p0)]
   ·rw[decide_eq_false e,aG,cond_true,if_neg e];rfl
  ·simp only
   rw[decide_eq_false (by omega),cond_false]
   unfold wS
   refine(o8 g.2.2.2.1 (λj=>((),((j:Int),()))) (nS g) (λe j=>gP (e,(4,(j:Int)))) (gP (zn g)) (λj h k=>?_) (λk=>?_) N0 (gj ok.l0)).trans ?_
   ·simp only
    rw[decide_eq_true (show(j:Int)<((g.2.2.2.1.length:Nat):Int) by omega),cond_true,aa (Js ok (au h))]
    simp only
    by_cases e:nS g j g.2.2.2.1[j]=0
    ·rw[decide_eq_true e,az,cond_false,if_pos e,bg h (le_max ok.l0)]
    ·rw[decide_eq_false e,aG,cond_true,if_neg e];rfl
   ·simp only
    rw[decide_eq_false (by omega),cond_false]
    refine aQ ((),(decide (g.2.2.2.2<0\/(g.2.1.length:Int)<=g.2.2.2.2),())) (λK=>?_) ?_
    ·by_cases q1:g.2.2.2.2<0
     ·rw[decide_eq_true q1,cond_true,decide_eq_true (.inl q1)]
     ·rw[decide_eq_false q1,cond_false]
      have:decide (g.2.2.2.2<0\/(g.2.1.length:Int)<=g.2.2.2.2)=decide ((g.2.1.length:Int)<=g.2.2.2.2):=by rw[decide_eq_decide];exact⟨λh=>h.resolve_left q1,.inr⟩
      rw[this]
    ·simp only
     unfold zn
     by_cases q:g.2.2.2.2<0\/(g.2.1.length:Int)<=g.2.2.2.2
     ·rw[decide_eq_true q,cond_true,if_pos q];rfl
     ·rw[decide_eq_false q,cond_false,if_neg q];rfl
   ·cases cm (nS g) 0 g.2.2.2.1 <;> rfl
  ·cases cm (lA g) 0 g.2.2.1 <;> rfl
 ·cases cm (iR g) 0 g.2.1 <;> rfl
end
noncomputable section
def exC:GrI:=([([88],((0:Int),[120]))],([[69]],([((0:Int),([84,119,111],([(true,0),(true,0)],(false,(-1,[0]))))),((0:Int),([79,110,101],([(false,0)],(false,(-1,[])))))],([],(0:Int)))))
theorem K9:p37 N0 (exC,())=some ((0,(0,(0,()))),()):=by kernel_rfl
def okB(g:GrI):Bool:=g.1.all (λr=>(r.1.all λc=>decide (0<=c/\c<=255))&&(r.2.2.all λc=>decide (0<=c/\c<=255))&&decide (r.1.length<=100)&&decide (r.2.2.length<=12))&&g.2.1.all (λs=>(s.all λc=>decide (0<=c/\c<=255))&&decide (s.length<=100))
 &&g.2.2.1.all (λp=>(p.2.1.all λc=>decide (0<=c/\c<=255))&&decide (p.2.1.length<=100)&&decide (p.2.2.1.length<=100)&&decide (p.2.2.2.2.2.length<=100))&&decide (g.1.length<=100)&&decide (g.2.1.length<=100)&&decide (g.2.2.1.length<=100)&&g.2.2.2.1.isEmpty
theorem Jv{g:GrI}(h:okB g=true):rL g/\∀ r∈g.1,r.2.2.length<=12:=by
 unfold okB at h
 simp only[ag,decide_eq_true_eq,cO]at h
 obtain⟨⟨⟨⟨⟨⟨h1,h2⟩,h3⟩,h4⟩,h5⟩,h6⟩,h7⟩:=h
 have h7:g.2.2.2.1=[]:=by simpa using h7
 have hm:∀ n:Nat,n<=100->n<=maxLen:=λn hn=>by unfold maxLen;omega
 refine⟨⟨by omega,λr hr=>?_,by omega,λs hs=>?_,by omega,λp hp=>?_,λp hp=>?_,λp hp=>?_,by rw[h7];simp,λl hl=>?_⟩,λr hr=>(h1 r hr).2⟩
 ·obtain⟨⟨⟨a1,a2⟩,a3⟩,a4⟩:=h1 r hr
  exact⟨a1,hm _ a3,a2,hm _ (by omega)⟩
 ·exact⟨(h2 s hs).1,hm _ (h2 s hs).2⟩
 ·exact⟨(h3 p hp).1.1.1,hm _ (h3 p hp).1.1.2⟩
 ·have:=(h3 p hp).1.2;omega
 ·have:=(h3 p hp).2;omega
 ·rw[h7]at hl;cases hl
theorem NE{g:GrI}(h:okB g=true)(h2:p37 N0 (g,())=some ((0,(0,(0,()))),())):∃ a b,p43 N0 (g,())=some (((0,(a,b)),()),()):=by
 obtain⟨ok,h12⟩:=Jv h
 have h31:=Jt ok h12
 have h13:=Ju ok
 rw[h2]at h13
 have h3:=(Prod.mk.inj (Prod.mk.inj (cP h13)).1).1
 refine⟨(kG g).2.1,(kG g).2.2,h31.trans ?_⟩
 rw[show kG g=((kG g).1,((kG g).2.1,(kG g).2.2))from rfl,<-h3]
end
end Go.Proofs.YtphipehmbefejaaGreat.Rf
namespace Go.Proofs.YtphipehmbefejaaGreat.Rf.Rk
open Go Go.Proofs.YtphipehmbefejaaGreat.Rf
noncomputable section
theorem um{α:Type}:∀ (l:List α) (j:Nat) (h:j<l.length),l.take (j+1)=l.take j++[l[j]]
 |[],j,h=>by simp at h
 |a::l,0,h=>by simp
 |a::l,j+1,h=>by
  have:=um l j (by simpa using h)
  simp only[List.take_succ_cons,this,dP,List.getElem_cons_succ]
theorem gZ{j n:Nat}(h:j<n)(hn:n<=1000000):IntKind.wrap .i64 ((j:Int)+1)=((j+1:Nat):Int):=by
 rw[bI (by omega) (by omega)];simp
end
noncomputable section
set_option maxRecDepth 100000 in
theorem Eg:p17 N0 ()=some ((true,()),()):=by
 obtain⟨a,b,h⟩:=NE (g:=exC) (by decide) K9
 unfold p17
 show ah (p18 N0 (exC,())) _=_
 rw[show p18 N0 (exC,())=_ from by
  unfold p18
  simp only
  rw[show p12 N0 (exC,())=_ from by
   unfold p12
   simp only
   rw[aa h]]]
 kernel_rfl
abbrev AcT:=Int×Int
abbrev rq:=List (List AcT)×(List (List Int)×(List Int×List Int))
def okA(n ns:Nat)(a:AcT):Bool:=decide (0<=a.1)&&(decide (a.1<=3)&&((!decide (a.1=1)||(decide (0<=a.2)&&decide (a.2<(n:Int))))&&(!decide (a.1=2)||(decide (0<=a.2)&&decide (a.2<(ns:Int))))))
def okG(n:Nat)(x:Int):Bool:=decide (-1<=x)&&decide (x<(n:Int))
def ru(t:rq)(tok so:Int)(j:Nat):Bool:=match t.1[j]?,t.2.1[j]? with
 |some a,some g=>decide ((a.length:Int)-1=tok)&&(decide ((g.length:Int)=so)&&(a.all (okA t.1.length t.2.2.1.length)&&g.all (okG t.1.length)))
 |_,_=>false
def slC(t:rq)(so:Int)(j:Nat):Bool:=match t.2.2.1[j]?,t.2.2.2[j]? with
 |some s,some l=>decide (0<=s)&&(decide (s<so)&&(decide (0<=l)&&decide (l<=12)))
 |_,_=>false
def lB(t:rq):Bool:=!decide (t.1.length=0)&&(decide (t.2.1.length=t.1.length)&&decide (t.2.2.2.length=t.2.2.1.length))
def o9(t:rq)(tok so:Int):Bool:=lB t&&((List.range t.1.length).all (ru t tok so)&&(List.range t.2.2.1.length).all (slC t so))
structure Sml(t:rq):Prop where
 a:t.1.length<=40
 g:t.2.1.length<=40
 s:t.2.2.1.length<=40
 l:t.2.2.2.length<=40
 ra:∀ r∈t.1,r.length<=40
 rg:∀ r∈t.2.1,r.length<=40
theorem nT{A R:Type}{body:A->(A->Option R)->Option R}(len:Nat)(ok:Nat->Bool)(bad after:Option R)(f:Nat->A)
 (step:∀ j,j<len->∀ k,body (f j) k=if ok j=true then k (f (j+1))else bad) (fin:∀ k,body (f len) k=after) (n:Nat) (hn:len<n):aA body n (f 0)=if(List.range len).all ok=true then after else bad:=by
 have:=du (body:=body) (List.range len) ok bad after f (λj hj k=>by
  rw[lG]at hj
  rw[step j hj k,List.getElem_range]) (λk=>by rw[lG];exact fin k) n (by rw[lG];exact hn)
 exact this
theorem Jw{t:rq}{row:List AcT}(hr:row.length<=40):p56 N0 (t,(row,()))=some ((row.all (okA t.1.length t.2.2.1.length),()),()):=by
 unfold p56
 simp only[bA]
 simp only[qV,decide_eq_true_eq]
 refine(du (after:=some ((true,()),())) row (okA t.1.length t.2.2.1.length) (some ((false,()),())) (λj=>((),((j:Int),()))) (λj hj k=>?_) (λk=>?_) N0 (by unfold N0;omega)).trans ?_
 ·have c:(j:Int)<(row.length:Int):=by omega
  simp only[c,if_true,dm,af,au hj,gZ hj (by omega)]
  generalize row[j]=a
  unfold okA
  by_cases h1:a.1=1
  ·by_cases h2:a.2<0
   ·have:¬0<=a.2:=by omega
    simp[h1,h2,this]
   ·by_cases h3:(t.1.length:Int)<=a.2
    ·have h4:¬a.2<(t.1.length:Int):=by omega
     simp[h1,h2,h3,h4]
    ·have h4:a.2<(t.1.length:Int):=by omega
     have h5:0<=a.2:=by omega
     simp[h1,h2,h3,h4,h5]
  ·by_cases h1':a.1=2
   ·by_cases h2:a.2<0
    ·have:¬0<=a.2:=by omega
     simp[h1',h2,this]
    ·by_cases h3:(t.2.2.1.length:Int)<=a.2
     ·have h4:¬a.2<(t.2.2.1.length:Int):=by omega
      simp[h1',h2,h3,h4]
     ·have h4:a.2<(t.2.2.1.length:Int):=by omega
      have h5:0<=a.2:=by omega
      simp[h1',h2,h3,h4,h5]
   ·by_cases h0:a.1=0
    ·simp[h0]
    ·by_cases h3:a.1=3
     ·simp[h3]
     ·by_cases h4:0<=a.1
      ·have h5:¬a.1<=3:=by omega
       simp[h1,h1',h0,h3,h5]
      ·simp[h1,h1',h0,h3,h4]
 ·simp only[eG,if_false]
 ·cases row.all (okA t.1.length t.2.2.1.length) <;> rfl
theorem Eh{len:Nat}(hl:len<=40){tok:Int}(h1:-9223372036854775808<=tok)(h2:tok<=9223372036854775807):((len:Int)=IntKind.wrap .i64 (tok+1))↔(len:Int)-1=tok:=by
 by_cases h:tok<9223372036854775807
 ·rw[bI (by omega) (by omega)];omega
 ·have e:tok=9223372036854775807:=by omega
  subst e
  have:IntKind.wrap .i64 (9223372036854775807+1)=-9223372036854775808:=by decide
  rw[this]
  omega
set_option maxHeartbeats 2000000 in
theorem Jx{t:rq}(hs:Sml t){tok so:Int}(h1:-9223372036854775808<=tok)(h2:tok<=9223372036854775807):p22 N0 (t,(tok,(so,())))=some (((if o9 t tok so=true then 0 else 23),()),()):=by
 unfold p22
 simp only[bA]
 simp only[qV,decide_eq_true_eq]
 have a0:=hs.a
 have g0:=hs.g
 have s0:=hs.s
 have l0:=hs.l
 by_cases q1:((t.1.length:Nat):Int)=0
 ·have:t.1.length=0:=by omega
  simp[o9,lB,this]
 by_cases q2:((t.2.1.length:Nat):Int)=(t.1.length:Int)
 case neg=>
  have:¬t.2.1.length=t.1.length:=by omega
  simp[o9,lB,this,q1,q2]
 by_cases q3:((t.2.2.2.length:Nat):Int)=(t.2.2.1.length:Int)
 case neg=>
  have:¬t.2.2.2.length=t.2.2.1.length:=by omega
  simp[o9,lB,this,q1,q2,q3]
 have e2:t.2.1.length=t.1.length:=by omega
 have e3:t.2.2.2.length=t.2.2.1.length:=by omega
 have Ei:lB t=true:=by
  unfold lB
  have:¬t.1.length=0:=by omega
  simp[this,e2,e3]
 simp only[q1,if_false,q2,decide_true,az,aE,q3]
 have wg:(if(List.range t.1.length).all (ru t tok so)=true then(if(List.range t.2.2.1.length).all (slC t so)=true then some (((0:Int),()),())else some ((23,()),()))else some ((23,()),()))=some (((if o9 t tok so=true then 0 else 23),()),()):=by
  unfold o9
  rw[Ei]
  cases(List.range t.1.length).all (ru t tok so) <;> cases(List.range t.2.2.1.length).all (slC t so) <;> rfl
 rw[<-wg]
 refine nT t.1.length (ru t tok so) _ _ (λj=>((),((j:Int),()))) (λj hj k=>?_) (λk=>?_) N0 (by unfold N0;omega)
 ·have hjg:j<t.2.1.length:=by omega
  have c:(j:Int)<(t.1.length:Int):=by omega
  have ra:=hs.ra _ (bO hj)
  have rg:=hs.rg _ (bO hjg)
  have fi:ru t tok so j=(decide ((t.1[j].length:Int)-1=tok)&&(decide ((t.2.1[j].length:Int)=so)&&(t.1[j].all (okA t.1.length t.2.2.1.length)&&t.2.1[j].all (okG t.1.length)))):=by
   unfold ru
   rw[au hj,au hjg]
  rw[fi]
  simp only[c,if_true,dm,af,au hj,au hjg,gZ hj (by omega)]
  generalize t.1[j]=a at *
  generalize t.2.1[j]=g at *
  have hwt:=Eh ra h1 h2
  by_cases c1:(a.length:Int)-1=tok
  ·have c1':=hwt.2 c1
   by_cases c2:(g.length:Int)=so
   ·rw[aa (Jw ra)]
    simp only[<-c1',decide_true,az,aE,if_false,c2,c1,bK]
    cases hA:a.all (okA t.1.length t.2.2.1.length)
    ·simp
    ·simp only[az,aE,if_false,bK]
     rw[<-c2]
     refine(du (after:=k ((),(((j+1:Nat):Int),()))) g (okG t.1.length) (some ((23,()),())) (λi=>((),((i:Int),()))) (λi hi k2=>?_) (λk2=>?_) N0 (by unfold N0;omega))
     ·have ci:(i:Int)<(g.length:Int):=by omega
      simp only[ci,if_true,dm,af,au hi,gZ hi (by omega)]
      generalize g[i]=x
      unfold okG
      by_cases d1:x < -1
      ·have:¬-1<=x:=by omega
       simp[d1,this]
      ·by_cases d2:(t.1.length:Int)<=x
       ·have d3:¬x<(t.1.length:Int):=by omega
        simp[d1,d2,d3]
       ·have d3:x<(t.1.length:Int):=by omega
        have d4:-1<=x:=by omega
        simp[d1,d2,d3,d4]
     ·simp only[eG,if_false]
   ·simp[<-c1',c2,c1]
  ·have c1':¬(a.length:Int)=IntKind.wrap .i64 (tok+1):=λe=>c1 (hwt.1 e)
   simp[c1',c1]
 ·simp only[eG,if_false]
  refine nT t.2.2.1.length (slC t so) _ _ (λj=>((),((j:Int),()))) (λj hj k=>?_) (λk=>?_) N0 (by unfold N0;omega)
  ·have hjl:j<t.2.2.2.length:=by omega
   have c:(j:Int)<(t.2.2.1.length:Int):=by omega
   have hsl:slC t so j=(decide (0<=t.2.2.1[j])&&(decide (t.2.2.1[j]<so)&&(decide (0<=t.2.2.2[j])&&decide (t.2.2.2[j]<=12)))):=by
    unfold slC
    rw[au hj,au hjl]
   rw[hsl]
   simp only[c,if_true,dm,af,au hj,au hjl,gZ hj (by omega)]
   generalize t.2.2.1[j]=s
   generalize t.2.2.2[j]=l
   by_cases d1:s<0
   ·have:¬0<=s:=by omega
    simp[d1,this]
   ·have d1':0<=s:=by omega
    by_cases d2:so<=s
    ·have:¬s<so:=by omega
     simp[d1,d2,this]
    ·have d2':s<so:=by omega
     by_cases d3:l<0
     ·have:¬0<=l:=by omega
      simp[d1,d2,d3,this]
     ·have d3':0<=l:=by omega
      by_cases d4:12<l
      ·have:¬l<=12:=by omega
       simp[d1,d2,d3,d4,this]
      ·have:l<=12:=by omega
       simp[d1,d1',d2,d2',d3,d3',d4,this]
  ·simp only[eG,if_false]
set_option maxHeartbeats 2000000 in
theorem Jy{t:rq}(hs:Sml t){tok so:Int}:p24 N0 (t,(tok,(so,())))=some ((o9 t tok so,()),()):=by
 unfold p24
 simp only[bA]
 simp only[qV,decide_eq_true_eq]
 have a0:=hs.a
 have g0:=hs.g
 have s0:=hs.s
 have l0:=hs.l
 by_cases q1:((t.1.length:Nat):Int)=0
 ·have:t.1.length=0:=by omega
  simp[o9,lB,this]
 by_cases q2:((t.2.1.length:Nat):Int)=(t.1.length:Int)
 case neg=>
  have:¬t.2.1.length=t.1.length:=by omega
  simp[o9,lB,this,q1,q2]
 by_cases q3:((t.2.2.2.length:Nat):Int)=(t.2.2.1.length:Int)
 case neg=>
  have:¬t.2.2.2.length=t.2.2.1.length:=by omega
  simp[o9,lB,this,q1,q2,q3]
 have e2:t.2.1.length=t.1.length:=by omega
 have e3:t.2.2.2.length=t.2.2.1.length:=by omega
 have Ei:lB t=true:=by
  unfold lB
  have:¬t.1.length=0:=by omega
  simp[this,e2,e3]
 simp only[q1,if_false,q2,decide_true,az,aE,q3]
 have wg:(if(List.range t.1.length).all (ru t tok so)=true then(if(List.range t.2.2.1.length).all (slC t so)=true then some ((true,()),())else some ((false,()),()))else some ((false,()),()))=some ((o9 t tok so,()),()):=by
  unfold o9
  rw[Ei]
  cases(List.range t.1.length).all (ru t tok so) <;> cases(List.range t.2.2.1.length).all (slC t so) <;> rfl
 rw[<-wg]
 refine nT t.1.length (ru t tok so) _ _ (λj=>((),((j:Int),()))) (λj hj k=>?_) (λk=>?_) N0 (by unfold N0;omega)
 ·have hjg:j<t.2.1.length:=by omega
  have c:(j:Int)<(t.1.length:Int):=by omega
  have ra:=hs.ra _ (bO hj)
  have rg:=hs.rg _ (bO hjg)
  have fi:ru t tok so j=(decide ((t.1[j].length:Int)-1=tok)&&(decide ((t.2.1[j].length:Int)=so)&&(t.1[j].all (okA t.1.length t.2.2.1.length)&&t.2.1[j].all (okG t.1.length)))):=by
   unfold ru
   rw[au hj,au hjg]
  rw[fi]
  simp only[c,if_true,dm,af,au hj,au hjg,gZ hj (by omega)]
  generalize t.1[j]=a at *
  generalize t.2.1[j]=g at *
  have hw:IntKind.wrap .i64 ((a.length:Int)-1)=(a.length:Int)-1:=bI (by omega) (by omega)
  rw[hw]
  by_cases c1:(a.length:Int)-1=tok
  ·by_cases c2:(g.length:Int)=so
   ·simp only[decide_true,az,aE,if_false,c2,c1,bK]
    have hin:∀ K:Option ((Bool×Unit)×Unit),(if a.all (okA t.1.length t.2.2.1.length)=true then(if g.all (okG t.1.length)=true then K else some ((false,()),()))else some ((false,()),()))=if(a.all (okA t.1.length t.2.2.1.length)&&g.all (okG t.1.length))=true then K else some ((false,()),()):=λK=>by
     cases a.all (okA t.1.length t.2.2.1.length) <;> cases g.all (okG t.1.length) <;> rfl
    rw[<-hin]
    refine(du a (okA t.1.length t.2.2.1.length) (some ((false,()),())) _ (λi=>((),((i:Int),()))) (λi hi k2=>?_) (λk2=>?_) N0 (by unfold N0;omega))
    ·have ci:(i:Int)<(a.length:Int):=by omega
     simp only[ci,if_true,dm,af,au hi,gZ hi (by omega)]
     generalize a[i]=x
     unfold okA
     by_cases d0:x.1<0
     ·have:¬0<=x.1:=by omega
      simp[d0,this]
     ·have d0':0<=x.1:=by omega
      by_cases d3:3<x.1
      ·have:¬x.1<=3:=by omega
       simp[d0,d3,this]
      ·have d3':x.1<=3:=by omega
       by_cases e1:x.1=1
       ·by_cases f1:x.2<0
        ·have:¬0<=x.2:=by omega
         simp[e1,f1,this]
        ·have f1':0<=x.2:=by omega
         by_cases f2:(t.1.length:Int)<=x.2
         ·have:¬x.2<(t.1.length:Int):=by omega
          simp[e1,f1,f2,this]
         ·have:x.2<(t.1.length:Int):=by omega
          simp[e1,f1,f1',f2,this]
       ·by_cases e2':x.1=2
        ·by_cases f1:x.2<0
         ·have:¬0<=x.2:=by omega
          simp[e2',f1,this]
         ·have f1':0<=x.2:=by omega
          by_cases f2:(t.2.2.1.length:Int)<=x.2
          ·have:¬x.2<(t.2.2.1.length:Int):=by omega
           simp[e2',f1,f2,this]
          ·have:x.2<(t.2.2.1.length:Int):=by omega
           simp[e2',f1,f1',f2,this]
        ·simp[d0,d0',d3,d3',e1,e2']
    ·simp only[eG,if_false]
     refine(du g (okG t.1.length) (some ((false,()),())) _ (λi=>((),((i:Int),()))) (λi hi k2=>?_) (λk2=>?_) N0 (by unfold N0;omega))
     ·have ci:(i:Int)<(g.length:Int):=by omega
      rw[c2]at ci
      simp only[ci,if_true,dm,af,au hi,gZ hi (by omega)]
      generalize g[i]=x
      unfold okG
      by_cases d1:x < -1
      ·have:¬-1<=x:=by omega
       simp[d1,this]
      ·by_cases d2:(t.1.length:Int)<=x
       ·have d3:¬x<(t.1.length:Int):=by omega
        simp[d1,d2,d3]
       ·have d3:x<(t.1.length:Int):=by omega
        have d4:-1<=x:=by omega
        simp[d1,d2,d3,d4]
     ·simp only[c2,eG,if_false]
   ·simp[c2,c1]
  ·simp[c1]
 ·simp only[eG,if_false]
  refine nT t.2.2.1.length (slC t so) _ _ (λj=>((),((j:Int),()))) (λj hj k=>?_) (λk=>?_) N0 (by unfold N0;omega)
  ·have hjl:j<t.2.2.2.length:=by omega
   have c:(j:Int)<(t.2.2.1.length:Int):=by omega
   have hsl:slC t so j=(decide (0<=t.2.2.1[j])&&(decide (t.2.2.1[j]<so)&&(decide (0<=t.2.2.2[j])&&decide (t.2.2.2[j]<=12)))):=by
    unfold slC
    rw[au hj,au hjl]
   rw[hsl]
   simp only[c,if_true,dm,af,au hj,au hjl,gZ hj (by omega)]
   generalize t.2.2.1[j]=s
   generalize t.2.2.2[j]=l
   by_cases d1:s<0
   ·have:¬0<=s:=by omega
    simp[d1,this]
   ·have d1':0<=s:=by omega
    by_cases d2:so<=s
    ·have:¬s<so:=by omega
     simp[d1,d2,this]
    ·have d2':s<so:=by omega
     by_cases d3:l<0
     ·have:¬0<=l:=by omega
      simp[d1,d2,d3,this]
     ·have d3':0<=l:=by omega
      by_cases d4:12<l
      ·have:¬l<=12:=by omega
       simp[d1,d2,d3,d4,this]
      ·have:l<=12:=by omega
       simp[d1,d1',d2,d2',d3,d3',d4,this]
  ·simp only[eG,if_false]
theorem Hj(t:rq):∃ b,p23 N0 (t,())=some ((b,()),())/\(b=true->Sml t):=by
 unfold p23
 simp only[bA]
 simp only[qV,decide_eq_true_eq]
 by_cases q1:(40:Int)<(t.1.length:Int)
 ·exact⟨false,by simp[q1],λh=>by cases h⟩
 by_cases q2:(40:Int)<(t.2.1.length:Int)
 ·exact⟨false,by simp[q1,q2],λh=>by cases h⟩
 by_cases q3:(40:Int)<(t.2.2.1.length:Int)
 ·exact⟨false,by simp[q1,q2,q3],λh=>by cases h⟩
 by_cases q4:(40:Int)<(t.2.2.2.length:Int)
 ·exact⟨false,by simp[q1,q2,q3,q4],λh=>by cases h⟩
 simp only[q1,q2,q3,q4,if_false,decide_false,aE]
 have e:∀ (l:List AcT),((40:Int)<(l.length:Int))↔¬l.length<=40:=λl=>by omega
 have e':∀ (l:List Int),((40:Int)<(l.length:Int))↔¬l.length<=40:=λl=>by omega
 refine⟨(t.1.all λr=>decide (r.length<=40))&&(t.2.1.all λr=>decide (r.length<=40)),?_,λh=>?_⟩
 ·have wg:(if(t.1.all λr=>decide (r.length<=40))=true then(if(t.2.1.all λr=>decide (r.length<=40))=true then some ((true,()),())else some ((false,()),()))else some ((false,()),()))=some ((((t.1.all λr=>decide (r.length<=40))&&(t.2.1.all λr=>decide (r.length<=40)),()),()):(Bool×Unit)×Unit):=by
   cases(t.1.all λr=>decide (r.length<=40)) <;> cases(t.2.1.all λr=>decide (r.length<=40)) <;> rfl
  rw[<-wg]
  refine du t.1 _ _ _ (λj=>((),((j:Int),()))) (λj hj k=>?_) (λk=>?_) N0 (by unfold N0;omega)
  ·have c:(j:Int)<(t.1.length:Int):=by omega
   simp only[c,if_true,dm,af,au hj,gZ hj (by omega),e]
   by_cases d:t.1[j].length<=40
   ·simp[d]
   ·simp[d]
  ·simp only[eG,if_false]
   refine du t.2.1 _ _ _ (λj=>((),((j:Int),()))) (λj hj k=>?_) (λk=>?_) N0 (by unfold N0;omega)
   ·have c:(j:Int)<(t.2.1.length:Int):=by omega
    simp only[c,if_true,dm,af,au hj,gZ hj (by omega),e']
    by_cases d:t.2.1[j].length<=40
    ·simp[d]
    ·simp[d]
   ·simp only[eG,if_false]
 ·simp only[ag,cO,decide_eq_true_eq]at h
  exact⟨by omega,by omega,by omega,by omega,h.1,h.2⟩
theorem Jz{t:rq}(hs:Sml t):p25 N0 (t,())=some ((t,()),()):=by
 have a0:=hs.a
 unfold p25
 simp only[bA]
 simp only[qV,decide_eq_true_eq]
 refine nA (λj=>((([],([],([],[]))),((t.1.take j,(t.2.1,(t.2.2.1,t.2.2.2))),())),((j:Int),()))) (λ_=>some ((t,()),())) t.1.length (λj hj K hK=>?_) N0 0 (bT _) (by unfold N0;omega)
 rcases av j t.1.length with h|h
 ·have c:(j:Int)<(t.1.length:Int):=by omega
  have hK:=hK h
  have ra:=hs.ra _ (bO h)
  have htl:(t.1.take j).length<=40:=by rw[aK];omega
  rw[um _ _ h]at hK
  simp only[c,if_true,dm,af,au h,gZ h (by omega)]
  generalize t.1[j]=r at *
  refine nA (λi=>((([],([],([],[]))),((t.1.take j,(t.2.1,(t.2.2.1,t.2.2.2))),())),(r.take i,((i:Int),())))) (λ_=>some ((t,()),())) r.length (λi hi L hL=>?_) N0 0 (bT _) (by unfold N0;omega)
  have hrl:(r.take i).length<=40:=by rw[aK];omega
  rcases av i r.length with hil|hil
  ·have ci:(i:Int)<(r.length:Int):=by omega
   have hL:=hL hil
   rw[um _ _ hil]at hL
   simp only[ci,if_true,dm,af,au hil,gZ hil (by omega),bU,eX]
   rw[if_pos (by omega),if_pos (by omega)]
   exact hL
  ·have ci:¬(i:Int)<(r.length:Int):=by omega
   rw[dC hil]
   simp only[ci,if_false,bU,eX]
   rw[if_pos (by omega),if_pos (by omega)]
   exact hK
 ·have c:¬(j:Int)<(t.1.length:Int):=by omega
  simp only[c,if_false]
  rw[dC h]
theorem Hk(t:rq){tok:Int}(h1:-9223372036854775808<=tok)(h2:tok<=9223372036854775807)(so:Int):p6 N0 (t,(tok,(so,())))=some ((true,()),()):=by
 obtain⟨b,e1,e2⟩:=Hj t
 unfold p6
 simp only
 rw[aa Eg]
 simp only
 rw[az,cond_false,aa e1]
 simp only
 cases b
 ·rfl
 have hs:=e2 rfl
 rw[az,cond_false,aa (Jz hs)]
 simp only
 rw[aa (Jy hs)]
 simp only
 rw[aa (Jx hs h1 h2)]
 simp only[bA]
 cases o9 t tok so <;> rfl
end
end Go.Proofs.YtphipehmbefejaaGreat.Rf.Rk
namespace Go.Proofs.YtphipehmbefejaaGreat
open Go Go.ChangeShapes Go.WideShapes Go.ChangeAt Go.RowKit Go.Proofs.YtphipehmbefejaaGreat.Rf
noncomputable section
theorem pO:ownKnob Tryz.prog.godebug=none:=by kernel_rfl
theorem pc:laidOutB Tryz.prog=true:=by kernel_rfl
set_option maxRecDepth 100000 in
theorem mP(os:Os)(started:os.Started)(H:Type)(enc:TypeId×Value->H):
 ReturnsInHanded {} Tryz.checked os 6 .any (Rows.tableChecksSpec.pre6 enc Tryz.prog Tryz.f6 Rows.tableChecksRow.domain false) (Rows.tableChecksSpec.post enc Tryz.prog Tryz.f6 false true false false):=by
 refine returnsInHanded_of_change (C:=Tryz.checked) pO started (by kernel_rfl) Tryz.func6
  (ChangeSpec.witness6 (enc:=enc) (C:=Tryz.checked) false ⟨#[],#[.agg #[.slice none 0 0,.slice none 0 0,.slice none 0 0,.slice none 0 0],.int .i64 0,.int .i64 0],[]⟩ 8 (by kernel_rfl) (by kernel_rfl) (by kernel_rfl) (by kernel_rfl)) ?_
 intro W base args ds gs before La hW0 NU _
 have hW:DataW.Whole enc Tryz.prog Tryz.f6.params.toList Rows.tableChecksSpec.vars false W args.toList ds gs before:=hW0
 have H3:∀ (j:Nat) t v,Tryz.f6.params.toList[j]?=some t->args[j]?=some v->Value.okWide Tryz.prog W .any base t v:=λj t v h1 h2=>La j t v (by simpa using h1) h2
 have hA:∃ p,DataW.TrodAll enc Tryz.prog W 0 (λ_=>true) true Tryz.f6.params.toList args.toList ds p:=by
  obtain⟨p,q,hA0,_⟩:=hW
  exact⟨p,hA0⟩
 obtain⟨p,hA⟩:=hA
 refine(AL CU (ok6 N0) (λx hx=>by obtain⟨t,tok,so,u⟩:=x;exact Rk.Hk t hx.2.1.1 hx.2.1.2 so) (n:=12) (ts:=Tryz.f6.params.toList) (by rw[Tryz.params6];rfl) hA H3 (λp hp=>by cases hp)).mono λe W' he=>?_
 obtain⟨he,hb⟩:=he
 exact⟨.bool true,he,CS pc (s:=Rows.tableChecksSpec) rfl ⟨4,by kernel_rfl,Tryz.underlying4⟩ (λds hd=>by rw[Tryz.params6]at hd;match ds,hd with|[_,_,_],_=>rfl) (by rw[Tryz.params6];kernel_rfl) hW hb⟩
theorem tableChecks_holds:Rows.TableChecksSaid:=
 OpenClaim.holds_of_wide 6 Tryz.f6 rfl rfl rfl rfl rfl rfl rfl ⟨rfl,rfl,rfl,rfl,rfl⟩ rfl rfl rfl rfl rfl (by kernel_rfl) Tryz.func6 (by kernel_rfl)
  (of_decide_eq_true (by kernel_rfl)) (by unfold Func.isWrapper;first|(rw[if_pos (by decide +kernel)];kernel_rfl)|(rw[if_neg (by decide +kernel)];exact⟨rfl,rfl⟩))
  (λos started H enc _=>mP os started H enc)
end
end Go.Proofs.YtphipehmbefejaaGreat
