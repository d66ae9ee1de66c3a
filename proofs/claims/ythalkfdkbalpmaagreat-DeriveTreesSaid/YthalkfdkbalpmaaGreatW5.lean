/- A part of a proof that deriveTrees_holds: the given statement DeriveTreesSaid is true of the program, with no condition ahead of it. Printed by wip/dev/pack2.py out of the texts in wip. -/
import Derived.Test.YthalkfdkbalpmaaGreatW4
set_option linter.unusedVariables false
set_option linter.unusedSimpArgs false
namespace Go.Proofs.YthalkfdkbalpmaaGreat.Rf
open Go
noncomputable section
theorem aq{A R:Type}{J:A->Option R}{body:(A->Option R)->Option R}(x:A)(h:∀ K,body K=K x){r:Option R}(hr:J x=r):aj J body=r:=(h J).trans hr
theorem bW{A R:Type}{P:Option R->Prop}{J:A->Option R}{body:(A->Option R)->Option R}(x:A)(h:∀ K,body K=K x)(hr:P (J x)):P (aj J body):=by
 show P (body J)
 rw[h J];exact hr
def Gf(l:List Int)(c:Int):Bool:=l.any λb=>decide (b=c)
theorem C7(l:List Int)(c:Int):Gf l c=decide (c∈l):=by
 unfold Gf
 rw[Bool.eq_iff_iff,List.any_eq_true,decide_eq_true_eq]
 constructor
 ·rintro⟨b,hb,h⟩
  rw[decide_eq_true_eq]at h
  exact h ▸ hb
 ·intro h
  exact⟨c,h,by simp⟩
theorem Gg(l:List Int)(hl:l.length<=maxLen)(c:Int):ui N0 (l,(c,()))=some ((decide (c∈l),()),()):=by
 unfold ui
 simp only
 rw[<-C7]
 refine au (λm x r=>∃ j:Nat,x=((),((j:Int),()))/\m+j=l.length/\r=some ((Gf (l.drop j) c,()),())) ?_ N0 l.length _ _ (by have:=eL hl;omega) ⟨0,rfl,rfl,by rw[List.drop_zero]⟩
 rintro m x r ⟨j,rfl,hm,rfl⟩ k hk
 simp only
 rcases Nat.lt_or_ge j l.length with hj|hj
 ·have n1:(0:Int)<=(j:Int):=by omega
  rw[decide_eq_true (show(j:Int)<((l.length:Nat):Int) by omega),cond_true,if_pos n1,Int.toNat_natCast,List.getElem?_eq_getElem hj]
  simp only[aC hj hl]
  unfold Gf
  rw[List.drop_eq_getElem_cons hj,List.any_cons]
  cases hd:decide (l[j]=c)
  ·rw[cond_false,Bool.false_or]
   exact hk (m-1) _ _ (by omega) ⟨j+1,rfl,by omega,rfl⟩
  ·rw[cond_true,Bool.true_or]
 ·rw[decide_eq_false (show ¬(j:Int)<((l.length:Nat):Int) by omega),cond_false,List.drop_of_length_le hj]
  rfl
theorem li(l:List Int)(hl:l.length<=maxLen)(c:Int):uh N0 (l,(c,()))=some ((decide (c∈l),()),()):=by
 have:uh=ui:=rfl
 rw[this];exact Gg l hl c
def mg(n:Nat):Int:=if n<10 then 48+(n:Int)else 87+(n:Int)
def C8(c:Nat):List Int:=if c=10 then [92,110]else if c=9 then [92,116]else if c=13 then [92,114]else
 if c<32\/126<c then [92,120,mg (c / 16),mg (c % 16)]else if c=92 then [92,92]else [(c:Int)]
theorem C9:∀ c:Fin 256,FU N0 (((c.val:Nat):Int),(([]:List Int),()))=some ((C8 c.val,()),()):=by decide +kernel
theorem Da{c:Nat}(h:c<256):FU N0 ((c:Int),(([]:List Int),()))=some ((C8 c,()),()):=C9 ⟨c,h⟩
theorem Db:∀ c:Fin 256,CI N0 (((c.val:Nat):Int),())=some ((iX ((c.val:Nat):Int),()),()):=by decide +kernel
theorem Gi{c:Int}(h:0<=c/\c<=255):CI N0 (c,())=some ((iX c,()),()):=by
 have:=Db ⟨c.toNat,by omega⟩
 simp only[Int.toNat_of_nonneg h.1]at this
 exact this
def Ml:List Int:=[48,49,50,51,52,53,54,55,56,57,97,98,99,100,101,102]
theorem ux:∀ q:Fin 16,aY Ml ((q.val:Nat):Int) (((q.val+1:Nat)):Int)=[mg q.val]:=by decide +kernel
theorem Dc:∀ q:Fin 16,kX (mg q.val)=some ((q.val:Nat):Int):=by decide +kernel
theorem qh{q:Nat}(h:q<16):kX (mg q)=some (q:Int):=Dc ⟨q,h⟩
theorem qi{h v:Int}(e:kX h=some v):mg v.toNat=h:=by
 unfold kX at e
 unfold mg
 split at e
 ·injection e with e
  rw[if_pos (by omega)];omega
 ·split at e
  ·injection e with e
   rw[if_neg (by omega)];omega
  ·cases e
def mA(s:List Int)(c:Nat):Bool:=(decide (c=10)&&decide (s[1]?=some 110))||(decide (c=9)&&decide (s[1]?=some 116))||(decide (c=13)&&decide (s[1]?=some 114))
def mB(s:List Int)(c:Nat):Bool:=decide (s[1]?=some 120)&&(decide (s[2]?=some (mg (c / 16)))&&decide (s[3]?=some (mg (c % 16))))
theorem Mn{r:List Int}{c:Nat}(h:mA (92::r) c=true):rdS (92::r)=some ((c:Int),2):=by
 unfold mA at h
 cases r with
 |nil=>simp at h
 |cons d r2=>
  simp only[List.getElem?_cons_succ,List.getElem?_cons_zero,Option.some.injEq,Bool.or_eq_true,Bool.and_eq_true,decide_eq_true_eq]at h
  rcases h with(⟨rfl,rfl⟩|⟨rfl,rfl⟩)|⟨rfl,rfl⟩ <;> rfl
theorem Mo{r:List Int}{c:Nat}(hc:c<256)(h:mB (92::r) c=true):rdS (92::r)=some ((c:Int),4):=by
 unfold mB at h
 match r with
 |[]=>simp at h
 |[d]=>simp at h
 |[d,x]=>simp at h
 |d::x::y::r4=>
  simp only[List.getElem?_cons_succ,List.getElem?_cons_zero,Option.some.injEq,Bool.and_eq_true,decide_eq_true_eq]at h
  obtain⟨rfl,rfl,rfl⟩:=h
  have e1:=qh (q:=c / 16) (by omega)
  have e2:=qh (q:=c % 16) (by omega)
  simp only[rdS]
  rw[e1,e2]
  have:(16:Int)*((c / 16:Nat):Int)+((c % 16:Nat):Int)=(c:Int):=by omega
  simp
  omega
def Dd(s:List Int):Option (Int×Nat):=match s[1]? with
 |some d=>if 32<=d/\d<=126/\iX d=false then some (d,2)else none
 |none=>none
theorem Gj{r:List Int}(hA:∀ c,c<256->mA (92::r) c=false)(hB:∀ c,c<256->mB (92::r) c=false):rdS (92::r)=Dd (92::r):=by
 match r with
 |[]=>rfl
 |d::r2=>
  have a1:=hA 10 (by omega)
  have a2:=hA 9 (by omega)
  have a3:=hA 13 (by omega)
  simp only[mA,List.getElem?_cons_succ,List.getElem?_cons_zero,Option.some.injEq]at a1 a2 a3
  have d1:¬d=110:=by simpa using a1
  have d2:¬d=116:=by simpa using a2
  have d3:¬d=114:=by simpa using a3
  simp only[rdS,Dd,List.getElem?_cons_succ,List.getElem?_cons_zero,ne_eq,not_true_eq_false,if_false,d1,d2,d3]
  by_cases d4:d=120
  ·subst d4
   rw[if_pos rfl]
   have hw:¬((32:Int)<=120/\(120:Int)<=126/\iX 120=false):=by decide
   rw[if_neg hw]
   match r2 with
   |[]=>rfl
   |[x]=>rfl
   |x::y::r4=>
    simp only
    cases hx:kX x with
    |none=>rfl
    |some a=>
     cases hy:kX y with
     |none=>rfl
     |some b=>
      exfalso
      have ha:=j7 hx
      have hb:=j7 hy
      have:=hB (16*a+b).toNat (by omega)
      have e1:(16*a+b).toNat / 16=a.toNat:=by omega
      have e2:(16*a+b).toNat % 16=b.toNat:=by omega
      simp[mB,e1,e2,qi hx,qi hy]at this
  ·rw[if_neg d4]
   cases hw:iX d
   ·by_cases h1:32<=d/\d<=126
    ·rw[if_neg (by simp;omega),if_pos ⟨h1.1,h1.2,rfl⟩]
    ·rw[if_pos (by simp;omega),if_neg (λh=>h1 ⟨h.1,h.2.1⟩)]
   ·rw[if_pos (.inl rfl),if_neg (λh=>by cases h.2.2)]
theorem rV{s:List Int}(hb:Bytes s)(hs:s.length<=maxLen):Ad N0 (s,())=some (rdR (rdS s),()):=by
 unfold Ad
 dsimp only
 cases s with
 |nil=>rfl
 |cons c r=>
  have e0:decide ((c::r:List Int)=[])=false:=rfl
  have n0:(0:Int)<=0:=by omega
  have g0:(c::r)[((0:Int)).toNat]?=some c:=rfl
  rw[e0,cond_false,if_pos n0,g0]
  simp only[if_pos n0]
  by_cases hc:c=92
  ·subst hc
   simp only[decide_true,Bool.not_true,cond_false]
   refine au (λm x q=>∃ c:Nat,x=((),((c:Int),()))/\m+c=256/\(∀ c',c' < c->mA (92::r) c'=false/\mB (92::r) c'=false)/\q=some (rdR (rdS (92::r)),())) ?_ N0 256 _ _ (by unfold N0;omega) ⟨0,rfl,rfl,λc' h=>by omega,rfl⟩
   rintro m x q ⟨c,rfl,hm,gM,rfl⟩ k hk
   dsimp only
   rcases Nat.lt_or_ge c 256 with hc|hc
   ·have w8:IntKind.wrap .u8 (c:Int)=(c:Int):=gm hc
    rw[decide_eq_true (show(c:Int)<256 by omega),cond_true,w8,aa (Da hc)]
    dsimp only
    refine aq ((),(mA (92::r) c,())) (λK=>?_) ?_
    ·have uy:decide (aY (92::r) 0 2=[92,110])=decide ((92::r:List Int)[1]?=some 110)/\decide (aY (92::r) 0 2=[92,116])=decide ((92::r:List Int)[1]?=some 116)/\decide (aY (92::r) 0 2=[92,114])=decide ((92::r:List Int)[1]?=some 114):=by
      unfold aY
      cases r with
      |nil=>exact⟨rfl,rfl,rfl⟩
      |cons d r2=>simp
     have hlen:∀ v:Int,decide (1<(((92::r:List Int).length:Nat):Int))=false->decide ((92::r:List Int)[1]?=some v)=false:=by
      intro v h
      cases r with
      |nil=>rfl
      |cons d r2=>simp at h;omega
     have xY:decide (1<(((92::r:List Int).length:Nat):Int))=true->(0:Int)<=0/\(0:Int)<=2/\(2:Int)<=(((92::r:List Int).length:Nat):Int):=by
      intro h
      rw[decide_eq_true_eq]at h
      omega
     have h12:∀ (v:Int) (b:Bool),v≠92->b=decide ((92::r:List Int)[1]?=some v)->decide (aY (92::r) 0 2=[92,v])=decide ((92::r:List Int)[1]?=some v)->
      (bif decide ((([92,v]:List Int).length:Int)=2)then(if(0:Int)<=1 then(match([92,v]:List Int)[((1:Int)).toNat]? with|some v12=>(bif(!decide (v12=92))then(bif decide (1<(((92::r:List Int).length:Nat):Int))then(if(0:Int)<=0/\(0:Int)<=2/\(2:Int)<=(((92::r:List Int).length:Nat):Int)then K ((),(decide (aY (92::r) 0 2=[92,v]),()))else none)else K ((),(false,())))else K ((),(false,())))|none=>none)else none)else K ((),(false,())))=K ((),(b,())):=by
      intro v b hv hb hcu
      have e1:decide ((([92,v]:List Int).length:Int)=2)=true:=rfl
      have e2:([92,v]:List Int)[((1:Int)).toNat]?=some v:=rfl
      have e3:(!decide (v=92))=true:=by simp[hv]
      rw[e1,cond_true,if_pos (show(0:Int)<=1 by omega),e2]
      dsimp only
      rw[e3,cond_true]
      cases hl:decide (1<(((92::r:List Int).length:Nat):Int))
      ·rw[cond_false,hb,hlen v hl]
      ·rw[cond_true,if_pos (xY hl),hcu,hb]
     unfold C8 mA
     by_cases h1:c=10
     ·rw[if_pos h1]
      refine h12 110 _ (by decide) ?_ uy.1
      simp[h1]
     rw[if_neg h1]
     by_cases h2:c=9
     ·rw[if_pos h2]
      refine h12 116 _ (by decide) ?_ uy.2.1
      simp[h2]
     rw[if_neg h2]
     by_cases h3:c=13
     ·rw[if_pos h3]
      refine h12 114 _ (by decide) ?_ uy.2.2
      simp[h3]
     rw[if_neg h3]
     have e:((decide (c=10)&&decide ((92::r:List Int)[1]?=some 110))||(decide (c=9)&&decide ((92::r:List Int)[1]?=some 116))||(decide (c=13)&&decide ((92::r:List Int)[1]?=some 114)))=false:=by simp[h1,h2,h3]
     rw[e]
     split
     ·rfl
     split
     ·rfl
     ·rfl
    ·dsimp only
     cases hA:mA (92::r) c
     ·rw[cond_false]
      have w16:IntKind.wrap .i64 (Int.tdiv (c:Int) 16)=((c / 16:Nat):Int):=by
       have:Int.tdiv (c:Int) 16=((c / 16:Nat):Int):=by
        rw[show(16:Int)=((16:Nat):Int) by rfl];exact Int.ofNat_tdiv c 16 |>.symm
       rw[this];exact aM (by omega)
      have t16:Int.tmod (c:Int) 16=((c % 16:Nat):Int):=by
       rw[show(16:Int)=((16:Nat):Int) by rfl];exact Int.ofNat_tmod c 16 |>.symm
      have w17:IntKind.wrap .i64 (((c / 16:Nat):Int)+1)=((c / 16+1:Nat):Int):=by rw[<-aM (n:=c / 16+1) (by omega)];rfl
      have w18:IntKind.wrap .i64 (((c % 16:Nat):Int)+1)=((c % 16+1:Nat):Int):=by rw[<-aM (n:=c % 16+1) (by omega)];rfl
      have w19:IntKind.wrap .i64 ((c:Int)+1)=((c+1:Nat):Int):=by rw[<-aM (n:=c+1) (by omega)];rfl
      have c1:=ux ⟨c / 16,by omega⟩
      have c2:=ux ⟨c % 16,by omega⟩
      unfold Ml at c1 c2
      dsimp only at c1 c2
      have n16:¬((16:Int)=0):=by omega
      rw[w16,t16,w17,w18,w19,if_neg n16,if_neg n16,if_pos (⟨by omega,by omega,by simp;omega⟩),c1,if_pos (by simp),if_neg n16,if_neg n16,if_pos (⟨by omega,by omega,by simp;omega⟩),c2,if_pos (by simp)]
      refine aq ((),(mB (92::r) c,())) (λK=>?_) ?_
      ·unfold mB
       match r with
       |[]=>rfl
       |[d]=>simp
       |[d,x]=>simp
       |d::x::y::r4=>
        have l3:decide ((3:Int)<(((92::d::x::y::r4:List Int).length:Nat):Int))=true:=by
         rw[decide_eq_true_eq];simp;omega
        rw[l3,cond_true,if_pos ⟨by omega,by omega,by simp;omega⟩]
        have e:decide (aY (92::d::x::y::r4) 0 4=[92,120]++[mg (c / 16)]++[mg (c % 16)])=(decide (d=120)&&(decide (x=mg (c / 16))&&decide (y=mg (c % 16)))):=by
         rw[<-Bool.decide_and,<-Bool.decide_and,decide_eq_decide]
         unfold aY
         simp
        rw[e]
        simp
      ·dsimp only
       cases hB:mB (92::r) c
       ·rw[cond_false]
        refine hk (m-1) _ _ (by omega) ⟨c+1,rfl,by omega,λc' hc'=>?_,rfl⟩
        by_cases e:c'=c
        ·subst e;exact⟨hA,hB⟩
        ·exact gM c' (by omega)
       ·rw[cond_true,Mo hc hB]
        rfl
     ·rw[cond_true,Mn hA]
      rfl
   ·have hc2:c=256:=by omega
    subst hc2
    rw[decide_eq_false (by omega),cond_false,Gj (λc hc=>(gM c hc).1) (λc hc=>(gM c hc).2)]
    unfold Dd
    match r with
    |[]=>rfl
    |d::r2=>
     have hd:=hb d (by simp)
     have l1:decide ((1:Int)<(((92::d::r2:List Int).length:Nat):Int))=true:=by
      rw[decide_eq_true_eq];simp;omega
     have n1:(0:Int)<=1:=by omega
     have g1:(92::d::r2:List Int)[((1:Int)).toNat]?=some d:=rfl
     have g2:(92::d::r2:List Int)[1]?=some d:=rfl
     rw[g2]
     dsimp only
     refine aq ((),(decide (32<=d/\d<=126/\iX d=false),())) (λK=>?_) ?_
     ·rw[l1,cond_true,if_pos n1,g1]
      dsimp only
      by_cases h1:32<=d
      ·rw[decide_eq_true h1,cond_true]
       by_cases h2:d<=126
       ·rw[decide_eq_true h2,cond_true,aa (Gi hd)]
        cases iX d <;> simp[h1,h2]
       ·rw[decide_eq_false h2,cond_false]
        simp[h2]
      ·rw[decide_eq_false h1,cond_false]
       simp[h1]
     ·dsimp only
      by_cases h:32<=d/\d<=126/\iX d=false
      ·rw[decide_eq_true h,cond_true,if_pos h,if_pos n1,g1]
       rfl
      ·rw[decide_eq_false h,cond_false,if_neg h]
       rfl
  ·have hc2:decide (c=92)=false:=decide_eq_false hc
   rw[hc2]
   simp only[Bool.not_false,cond_true,rdS,ne_eq,hc,not_false_eq_true,if_true]
   rfl
end
noncomputable section
theorem xZ(f:Nat->Bool){i:Nat}(h:i<256):Ac N0 (ofB f,((i:Int),()))=some ((f i,()),()):=by
 unfold Ac
 dsimp only
 have hw:i / 64<4:=by omega
 have hl:i % 64<64:=Nat.mod_lt _ (by omega)
 have w1:IntKind.wrap .i64 (Int.tdiv (i:Int) 64)=((i / 64:Nat):Int):=by rw[CY];exact aM (by omega)
 have g:=fK (l:=f) hw
 have n1:¬((64:Int)=0):=by omega
 have n2:¬((2:Int)=0):=by omega
 have n3:(0:Int)<=((i / 64:Nat):Int):=by omega
 rw[if_neg n1,w1,if_pos n3,Int.toNat_natCast,g]
 simp only[if_neg n1,if_neg n2,CZ]
 refine au (λm x q=>∃ j:Nat,x=((),(((aI f (i / 64) / 2 ^ j:Nat):Int),((j:Int),())))/\m+j=i % 64/\q=some ((f i,()),())) ?_ N0 (i % 64) _ _ (by unfold N0;omega) ⟨0,by simp,by omega,rfl⟩
 rintro m x q ⟨j,rfl,hm,rfl⟩ k hk
 dsimp only
 have hlt:=bX f (i / 64)
 by_cases hj:j<i % 64
 ·have w2:IntKind.wrap .u64 (Int.tdiv ((aI f (i / 64) / 2 ^ j:Nat):Int) 2)=((aI f (i / 64) / 2 ^ (j+1):Nat):Int):=by
   have e:Int.tdiv ((aI f (i / 64) / 2 ^ j:Nat):Int) 2=((aI f (i / 64) / 2 ^ j / 2:Nat):Int):=by
    rw[show(2:Int)=((2:Nat):Int) by rfl];exact Int.ofNat_tdiv _ 2 |>.symm
   rw[e,Nat.div_div_eq_div_mul,<-Nat.pow_succ]
   exact wrap_u64 (Nat.lt_of_le_of_lt (Nat.div_le_self _ _) hlt)
  have w3:IntKind.wrap .i64 ((j:Int)+1)=((j+1:Nat):Int):=by rw[<-aM (n:=j+1) (by omega)];rfl
  rw[decide_eq_true (show(j:Int)<((i % 64:Nat):Int) by omega),cond_true,w2,w3]
  exact hk (m-1) _ _ (by omega) ⟨j+1,rfl,by omega,rfl⟩
 ·have hj2:j=i % 64:=by omega
  rw[decide_eq_false (show ¬(j:Int)<((i % 64:Nat):Int) by omega),cond_false]
  have hb:=bM f (i / 64) (i % 64)
  rw[Nat.testBit_eq_decide_div_mod_eq,<-hj2]at hb
  have e2:64*(i / 64)+j=i:=by omega
  rw[e2,decide_eq_true (show j<64 by omega),Bool.true_and]at hb
  have e:Int.tmod ((aI f (i / 64) / 2 ^ j:Nat):Int) 2=((aI f (i / 64) / 2 ^ j % 2:Nat):Int):=by
   rw[show(2:Int)=((2:Nat):Int) by rfl];exact Int.ofNat_tmod _ 2 |>.symm
  have e3:decide (Int.tmod ((aI f (i / 64) / 2 ^ j:Nat):Int) 2=1)=f i:=by
   rw[<-hb,e,decide_eq_decide];omega
  rw[e3]
def bits(f:Nat->Bool):List Bool:=(List.range 256).map f
theorem lj(f:Nat->Bool):(bits f).length=256:=by simp[bits]
theorem jJ(f:Nat->Bool){i:Nat}(h:i<256):(bits f)[i]?=some (f i):=by
 unfold bits
 rw[List.getElem?_map,List.getElem?_range h]
 rfl
theorem oT{f g:Nat->Bool}(h:∀ i,i<256->f i=g i):bits f=bits g:=by
 unfold bits
 exact List.map_congr_left λi hi=>h i (List.mem_range.1 hi)
theorem qj:List.replicate ((256:Int)).toNat false=bits (λ_=>false):=by decide +kernel
theorem uz(f:Nat->Bool){i:Nat}(h:i<256):(bits f).set i true=bits (λx=>f x||decide (x=i)):=by
 apply List.ext_getElem?
 intro j
 rw[List.getElem?_set]
 by_cases hj:j<256
 ·have g1:=jJ (λx=>f x||decide (x=i)) hj
  have g2:=jJ f hj
  rw[g1,g2]
  by_cases e:i=j
  ·subst e
   rw[if_pos rfl,if_pos (by rw[lj];exact h)]
   simp
  ·rw[if_neg e]
   have:¬j=i:=λh=>e h.symm
   simp[this]
 ·have e1:(bits λx=>f x||decide (x=i))[j]?=none:=List.getElem?_eq_none (by rw[lj];omega)
  have e2:(bits f)[j]?=none:=List.getElem?_eq_none (by rw[lj];omega)
  rw[e1,e2,if_neg (by omega)]
theorem Gk{f:Nat->Bool}{c:Nat}(hz:∀ x,c<=x->f x=false):aI f (c / 64)+2 ^ (c % 64)=aI (λx=>f x||decide (x=c)) (c / 64):=by
 have hi:c % 64<64:=Nat.mod_lt _ (by omega)
 have hlt:aI f (c / 64)<2 ^ (c % 64):=by
  apply Nat.lt_pow_two_of_testBit
  intro j hj
  rw[bM,hz _ (by omega),Bool.and_false]
 have e:=CW (l:=f) (w:=c / 64) hi
 have e2:64*(c / 64)+c % 64=c:=by omega
 rw[e2]at e
 rw[<-e,Nat.or_comm,Nat.add_comm]
 have:=Nat.two_pow_add_eq_or_of_lt hlt 1
 rw[Nat.mul_one]at this
 exact this
theorem Gl(l:List Bool)(hl:l.length<=maxLen):wD N0 (l,())=some ((ofB (λx=>(l[x]?).getD false),()),()):=by
 unfold wD
 dsimp only
 have z:([0,0,0,0]:List Int)=ofB (λx=>decide (x<0)&&(l[x]?).getD false):=by
  rw[show([0,0,0,0]:List Int)=zS by rfl]
  refine(ez.2 ?_).symm
  unfold cm
  rw[List.all_eq_true]
  intro x _
  simp
 refine au (λm x q=>∃ c:Nat,x=(([0,0,0,0],(ofB (λx=>decide (x<c)&&(l[x]?).getD false),())),((c:Int),()))/\m+c=256/\q=some ((ofB (λx=>(l[x]?).getD false),()),())) ?_ N0 256 _ _ (by unfold N0;omega) ⟨0,by rw[<-z];rfl,rfl,rfl⟩
 rintro m x q ⟨c,rfl,hm,rfl⟩ k hk
 dsimp only
 refine aq (([0,0,0,0],(ofB (λx=>decide (x<c)&&(l[x]?).getD false),())),(decide (c<256)&&decide (c<l.length),())) (λK=>?_) ?_
 ·by_cases h:c<256
  ·rw[decide_eq_true (show(c:Int)<256 by omega),cond_true,decide_eq_true h,Bool.true_and]
   have:decide ((c:Int)<((l.length:Nat):Int))=decide (c<l.length):=by rw[decide_eq_decide];omega
   rw[this]
  ·rw[decide_eq_false (show ¬(c:Int)<256 by omega),cond_false,decide_eq_false h,Bool.false_and]
 dsimp only
 by_cases h:c<256/\c<l.length
 ·obtain⟨hc,hcl⟩:=h
  have n0:(0:Int)<=(c:Int):=by omega
  have Mp:l[c]?=some l[c]:=List.getElem?_eq_getElem hcl
  rw[decide_eq_true hc,decide_eq_true hcl,Bool.true_and,cond_true,if_pos n0,Int.toNat_natCast,Mp]
  dsimp only
  have w3:IntKind.wrap .i64 ((c:Int)+1)=((c+1:Nat):Int):=by rw[<-aM (n:=c+1) (by omega)];rfl
  refine aq (([0,0,0,0],(ofB (λx=>decide (x<c+1)&&(l[x]?).getD false),())),()) (λK=>?_) ?_
  ·have HE:∀ x:Nat,(decide (x<c+1)&&(l[x]?).getD false)=((decide (x<c)&&(l[x]?).getD false)||(decide (x=c)&&l[c])):=by
    intro x
    by_cases hx:x=c
    ·subst hx
     have h1:¬x<x:=by omega
     have h2:x<x+1:=by omega
     simp[h1,h2,Mp]
    ·have:(x<c+1)↔(x<c):=by omega
     simp[this,hx]
   cases hb:l[c]
   ·rw[cond_false]
    have:ofB (λx=>decide (x<c+1)&&(l[x]?).getD false)=ofB (λx=>decide (x<c)&&(l[x]?).getD false):=fe λx hx=>by rw[HE x,hb];simp
    rw[this]
   ·rw[cond_true]
    have hw:c / 64<4:=by omega
    have hl6:c % 64<64:=Nat.mod_lt _ (by omega)
    have w1:IntKind.wrap .i64 (Int.tdiv (c:Int) 64)=((c / 64:Nat):Int):=by rw[CY];exact aM (by omega)
    have w2:IntKind.wrap .u64 (Int.tmod (c:Int) 64)=((c % 64:Nat):Int):=by rw[CZ];exact wrap_u64 (by omega)
    have n1:¬((64:Int)=0):=by omega
    have n2:¬(((c % 64:Nat):Int)<0):=by omega
    have n3:(0:Int)<=((c / 64:Nat):Int):=by omega
    have g:(ofB (λx=>decide (x<c)&&(l[x]?).getD false))[((c / 64:Nat):Int).toNat]?=some ((aI (λx=>decide (x<c)&&(l[x]?).getD false) (c / 64):Nat):Int):=by rw[Int.toNat_natCast];exact fK hw
    rw[if_neg n1,if_neg n1,w1,if_pos n3,g]
    simp only[if_neg n1,w2,if_neg n2,if_pos n3,g,rQ hl6]
    have hab:=Gk (f:=λx=>decide (x<c)&&(l[x]?).getD false) (c:=c) (λx hx=>by
     have:¬x<c:=by omega
     simp[this])
    have hlt:=bX (λx=>(decide (x<c)&&(l[x]?).getD false)||decide (x=c)) (c / 64)
    have w4:IntKind.wrap .u64 (((aI (λx=>decide (x<c)&&(l[x]?).getD false) (c / 64):Nat):Int)+((2 ^ (c % 64):Nat):Int))=((aI (λx=>(decide (x<c)&&(l[x]?).getD false)||decide (x=c)) (c / 64):Nat):Int):=by
     rw[<-hab,<-Int.natCast_add]
     exact wrap_u64 (by rw[hab];exact hlt)
    rw[w4,Int.toNat_natCast]
    have bf:(ofB (λx=>decide (x<c)&&(l[x]?).getD false)).set (c / 64) ((aI (λx=>(decide (x<c)&&(l[x]?).getD false)||decide (x=c)) (c / 64):Nat):Int)=ofB (λx=>(decide (x<c)&&(l[x]?).getD false)||decide (x=c)):=
     rP hw rfl (λv j hv hne hj=>by
      have:¬(64*v+j=c):=by omega
      simp[this])
    rw[bf]
    have:ofB (λx=>decide (x<c+1)&&(l[x]?).getD false)=ofB (λx=>(decide (x<c)&&(l[x]?).getD false)||decide (x=c)):=fe λx hx=>by rw[HE x,hb];simp
    rw[this]
  ·dsimp only
   rw[w3]
   exact hk (m-1) _ _ (by omega) ⟨c+1,rfl,by omega,rfl⟩
 ·have hf:(decide (c<256)&&decide (c<l.length))=false:=by
   rw[Bool.and_eq_false_iff,decide_eq_false_iff_not,decide_eq_false_iff_not]
   omega
  rw[hf,cond_false]
  have:ofB (λx=>decide (x<c)&&(l[x]?).getD false)=ofB (λx=>(l[x]?).getD false):=fe λx hx=>by
   by_cases hxc:x<c
   ·simp[hxc]
   ·have:l[x]?=none:=List.getElem?_eq_none (by omega)
    simp[this]
  rw[this]
theorem mh(f:Nat->Bool):wD N0 (bits f,())=some ((ofB f,()),()):=by
 rw[Gl _ (by rw[lj];simp[maxLen])]
 have:ofB (λx=>((bits f)[x]?).getD false)=ofB f:=fe λx hx=>by rw[jJ _ hx];rfl
 rw[this]
theorem uA(f g:Nat->Bool):CH N0 (3,(ofB f,(ofB g,())))=some ((ofB (λx=>!f x),()),()):=by
 unfold CH
 dsimp only
 refine au (λm x q=>∃ c:Nat,x=(([0,0,0,0],()),((List.range c).map (λx=>!f x),((c:Int),())))/\m+c=256/\q=some ((ofB (λx=>!f x),()),())) ?_ N0 256 _ _ (by unfold N0;omega) ⟨0,rfl,rfl,rfl⟩
 rintro m x q ⟨c,rfl,hm,rfl⟩ k hk
 dsimp only
 rcases Nat.lt_or_ge c 256 with hc|hc
 ·have w3:IntKind.wrap .i64 ((c:Int)+1)=((c+1:Nat):Int):=by rw[<-aM (n:=c+1) (by omega)];rfl
  rw[decide_eq_true (show(c:Int)<256 by omega),cond_true,aa (xZ f hc)]
  dsimp only
  rw[aa (xZ g hc)]
  dsimp only
  have f1:(((List.range c).map (λx=>!f x)).length+([!f c]:List Bool).length)*1<=140737488355328:=by simp;omega
  have f2:((List.range c).map (λx=>!f x)).length+([!f c]:List Bool).length<=9223372036854775807:=by simp;omega
  simp only[aP,show decide ((3:Int)=0)=false from rfl,show decide ((3:Int)=1)=false from rfl,show decide ((3:Int)=2)=false from rfl,cond_false]
  rw[if_pos f1,if_pos f2,w3]
  refine hk (m-1) _ _ (by omega) ⟨c+1,?_,by omega,rfl⟩
  rw[List.range_succ,List.map_append]
  rfl
 ·have hc2:c=256:=by omega
  subst hc2
  rw[decide_eq_false (by omega),cond_false]
  exact aa (mh _) _
end
noncomputable section
theorem cH{A R:Type}{P:Option R->Prop}{J:A->Option R}{body:(A->Option R)->Option R}(h:∀ K,(∀ x,K x=J x)->P (body K)):P (aj J body):=h J λ_=>rfl
def OkQ(o:Option (Rx×Nat))(z:Option ((List Pc×(Int×Unit))×Unit)):Prop:=
 match o with
 |some (t,j)=>z=some ((t.post,((j:Int),())),())
 |none=>∃ k:Int,z=some (([],(k,())),())
theorem oU(s:List Int){i:Nat}(hi:i<=s.length):((0:Int)<=(i:Int)/\(i:Int)<=((s.length:Nat):Int)/\((s.length:Nat):Int)<=((s.length:Nat):Int))/\aY s (i:Int) ((s.length:Nat):Int)=s.drop i:=by
 refine⟨⟨by omega,by omega,by omega⟩,?_⟩
 unfold aY
 simp only[Int.toNat_natCast]
 exact List.take_of_length_le (by simp)
theorem oV{s:List Int}(hs:s.length<=maxLen)(i:Nat):(s.drop i).length<=maxLen:=by rw[List.length_drop];omega
theorem Gm{s:List Int}(hb:Bytes s)(hs0:s.length<=1600){i:Nat}(hi:i<=s.length):OkQ (brS s i) (FV N0 (s,((i:Int),()))):=by
 have hs:s.length<=maxLen:=by unfold maxLen;omega
 rw[oR]
 unfold FV
 dsimp only
 rw[if_pos (show(0:Int)<=256/\(256:Int)<=256 by omega),if_pos (show((256:Int)).toNat*1<=140737488355328 by decide),qj]
 refine bW (P:=OkQ _) ((bits (λ_=>false),()),(cG s i 94,())) (λK=>?_) ?_
 ·unfold cG
  rcases Nat.lt_or_ge i s.length with h|h
  ·have n0:(0:Int)<=(i:Int):=by omega
   rw[decide_eq_true (show(i:Int)<((s.length:Nat):Int) by omega),cond_true,if_pos n0,Int.toNat_natCast,eA h,decide_eq_true h,Bool.true_and]
  ·rw[decide_eq_false (show ¬(i:Int)<((s.length:Nat):Int) by omega),cond_false,decide_eq_false (show ¬i<s.length by omega),Bool.false_and]
 dsimp only
 generalize hnt:cG s i 94=nt
 have hlt:nt=true->i<s.length:=λh=>by
  rw[<-hnt]at h
  unfold cG at h
  simp at h
  exact h.1
 have hi1:(if nt=true then i+1 else i)<=s.length:=by
  split
  ·rename_i h;exact hlt h
  ·exact hi
 refine bW (P:=OkQ _) ((bits (λ_=>false),()),(((if nt=true then i+1 else i:Nat):Int),())) (λK=>?_) ?_
 ·cases nt
  ·rfl
  ·rw[cond_true,if_pos rfl,aC (hlt rfl) hs]
 dsimp only
 generalize (if nt=true then i+1 else i)=i1 at hi1 |-
 generalize a8:brL s s.length.succ i1 (λ_=>false)=res
 refine bC (λm x=>∃ (i:Nat) (f:Nat->Bool) (aS:Nat),x=((bits f,()),((i:Int),()))/\i<=s.length/\s.length-i<aS/\m=s.length-i/\brL s aS i f=res) (OkQ (iZ s nt res)) ?_ N0 (s.length-i1) _ (by have:=eL hs;omega) ⟨i1,_,s.length.succ,rfl,hi1,by omega,rfl,a8⟩
 rintro m x ⟨i,f,aS,rfl,hi,hf,hm,hr⟩ k hk
 obtain⟨aS,rfl⟩:∃ q,aS=q+1:=⟨aS-1,by omega⟩
 simp only[brL]at hr
 dsimp only
 have n0:(0:Int)<=(i:Int):=by omega
 refine bW (P:=OkQ _) ((bits f,()),(decide (¬(s.length<=i\/ch s i=93)),())) (λK=>?_) ?_
 ·rcases Nat.lt_or_ge i s.length with h|h
  ·have e:decide (¬(s.length<=i\/ch s i=93))=!decide (ch s i=93):=by
    have:¬s.length<=i:=by omega
    simp[this]
   rw[decide_eq_true (show(i:Int)<((s.length:Nat):Int) by omega),cond_true,if_pos n0,Int.toNat_natCast,eA h,e]
  ·have e:decide (¬(s.length<=i\/ch s i=93))=false:=by simp[h]
   rw[decide_eq_false (show ¬(i:Int)<((s.length:Nat):Int) by omega),cond_false,e]
 dsimp only
 by_cases iO:s.length<=i\/ch s i=93
 ·-- the end
  rw[if_pos iO]at hr
  rw[decide_eq_false (λh=>h iO),cond_false,aa (mh f)]
  dsimp only
  subst hr
  unfold iZ
  dsimp only
  generalize hg:(if nt=true then λx=>!f x else f)=g
  refine bW (P:=OkQ _) ((ofB g,()),()) (λK=>?_) ?_
  ·cases nt
   ·rw[cond_false]
    have:f=g:=hg
    rw[this]
   ·rw[cond_true,aa (uA f f)]
    have:(λx=>!f x)=g:=hg
    rw[this]
  dsimp only
  refine bW (P:=OkQ _) ((ofB g,()),(decide (s.length<=i\/cm g=true),())) (λK=>?_) ?_
  ·rcases Nat.lt_or_ge i s.length with h|h
   ·have e:decide (s.length<=i\/cm g=true)=decide (ofB g=[0,0,0,0]):=by
     have:¬s.length<=i:=by omega
     rw[decide_eq_decide,show([0,0,0,0]:List Int)=zS by rfl,ez]
     simp[this]
    rw[decide_eq_false (show ¬((s.length:Nat):Int)<=(i:Int) by omega),cond_false,e]
   ·rw[decide_eq_true (show((s.length:Nat):Int)<=(i:Int) by omega),cond_true,decide_eq_true (.inl h)]
  dsimp only
  by_cases hem:s.length<=i\/cm g=true
  ·rw[if_pos hem,decide_eq_true hem,cond_true]
   exact⟨_,rfl⟩
  ·rw[if_neg hem,decide_eq_false hem,cond_false,aC (show i<s.length by omega) hs]
   rfl
 ·rw[if_neg iO]at hr
  have hlt:i<s.length:=by omega
  obtain⟨hc,l9⟩:=oU s hi
  rw[decide_eq_true iO,cond_true,if_pos hc,l9,aa (rV (hb.drop i) (oV hs i))]
  dsimp only
  cases hrd:rdS (s.drop i)with
  |none=>
   have:res=none:=by
    rw[hrd]at hr
    split at hr
    ·exact hr.symm
    ·exact hr.symm
   subst this
   exact⟨_,rfl⟩
  |some p=>
   obtain⟨a,n⟩:=p
   rw[hrd]at hr
   obtain⟨ha,hn1,hn2⟩:=gn (hb.drop i) hrd
   rw[List.length_drop]at hn2
   dsimp only[rdR]
   dsimp only at hr
   refine bW (P:=OkQ _) ((bits f,()),(decide (ch s i∈([94,45,47,34]:List Int)),())) (λK=>?_) ?_
   ·rw[Bool.not_true,cond_false,if_pos n0,Int.toNat_natCast,eA hlt]
    dsimp only
    rw[aa (li _ (by simp[maxLen]) _)]
   dsimp only
   by_cases hin:ch s i∈([94,45,47,34]:List Int)
   ·rw[if_pos hin]at hr
    rw[decide_eq_true hin,cond_true]
    subst hr
    exact⟨_,rfl⟩
   rw[if_neg hin]at hr
   rw[decide_eq_false hin,cond_false]
   have w1:IntKind.wrap .i64 ((i:Int)+(n:Int))=((i+n:Nat):Int):=by
    rw[<-aM (n:=i+n) (by omega)];rfl
   have w2:IntKind.wrap .i64 (((i+n:Nat):Int)+1)=((i+n+1:Nat):Int):=by
    rw[<-aM (n:=i+n+1) (by omega)];rfl
   simp only[w1]
   refine bW (P:=OkQ _) ((bits f,()),(cG s (i+n) 45,())) (λK=>?_) ?_
   ·unfold cG
    rcases Nat.lt_or_ge (i+n) s.length with h|h
    ·have n0:(0:Int)<=((i+n:Nat):Int):=by omega
     rw[decide_eq_true (show((i+n:Nat):Int)<((s.length:Nat):Int) by omega),cond_true,if_pos n0,Int.toNat_natCast,eA h,decide_eq_true h,Bool.true_and]
    ·rw[decide_eq_false (show ¬((i+n:Nat):Int)<((s.length:Nat):Int) by omega),cond_false,decide_eq_false (show ¬i+n<s.length by omega),Bool.false_and]
   dsimp only
   simp only[w2]
   refine cH (P:=OkQ _) λK hK=>?_
   -- Bk goes on with a range
   have go:∀ (j:Nat) (b:Int),j<=s.length->i<j->(0<=b/\b<=255)->brL s aS j (λx=>f x||oP a b x)=res->
    OkQ (iZ s nt res) (K ((bits f,()),((j:Int),(b,())))):=by
    intro j b hj hij hbb a8
    rw[hK]
    dsimp only
    have wa:IntKind.wrap .i64 a=a:=aJ (by omega) (by omega)
    have wb:IntKind.wrap .i64 b=b:=aJ (by omega) (by omega)
    rw[wa,wb]
    have e0:bits f=bits (λx=>f x||(decide (a<=(x:Int))&&decide ((x:Int)<((a.toNat:Nat):Int)))):=oT λx hx=>by
     rw[Int.toNat_of_nonneg ha.1]
     by_cases h:a<=(x:Int)
     ·have:¬(x:Int)<a:=by omega
      simp[this]
     ·simp[h]
    refine bC (λm x=>∃ c:Nat,x=((bits (λx=>f x||(decide (a<=(x:Int))&&decide ((x:Int)<(c:Int)))),()),((c:Int),()))/\m+c=256/\a<=(c:Int)/\(a<=b->(c:Int)<=b+1)/\(b<a->(c:Int)=a)) (OkQ (iZ s nt res)) ?_ N0 (256-a.toNat) _ (by unfold N0;omega) ⟨a.toNat,by rw[<-e0,Int.toNat_of_nonneg ha.1],by omega,by omega,by omega,by omega⟩
    rintro m x ⟨c,rfl,hm,h1,h2,h3⟩ k2 hk2
    dsimp only
    by_cases hcb:(c:Int)<=b
    ·have hc:c<256:=by omega
     have n1:(0:Int)<=(c:Int):=by omega
     have w3:IntKind.wrap .i64 ((c:Int)+1)=((c+1:Nat):Int):=by rw[<-aM (n:=c+1) (by omega)];rfl
     rw[decide_eq_true hcb,cond_true,if_pos n1,Int.toNat_natCast,jJ _ hc]
     dsimp only
     rw[if_pos n1]
     rw[uz _ hc,w3]
     refine hk2 (m-1) _ (by omega) ⟨c+1,?_,by omega,by omega,by omega,by omega⟩
     have:bits (λx=>(f x||(decide (a<=(x:Int))&&decide ((x:Int)<(c:Int))))||decide (x=c))=bits (λx=>f x||(decide (a<=(x:Int))&&decide ((x:Int)<((c+1:Nat):Int)))):=oT λx hx=>by
      have e3:decide ((x:Int)<((c+1:Nat):Int))=(decide ((x:Int)<(c:Int))||decide (x=c)):=by rw[<-Bool.decide_or,decide_eq_decide];omega
      rw[e3]
      by_cases hax:a<=(x:Int)
      ·simp[hax,Bool.or_assoc]
      ·have:¬x=c:=by omega
       simp[hax,this]
     rw[this]
    ·rw[decide_eq_false hcb,cond_false]
     refine hk (s.length-j) _ (by omega) ⟨j,_,aS,?_,hj,by omega,rfl,a8⟩
     have:bits (λx=>f x||(decide (a<=(x:Int))&&decide ((x:Int)<(c:Int))))=bits (λx=>f x||oP a b x):=oT λx hx=>by
      unfold oP
      rcases Int.lt_or_le b a with hl|hl
      ·have e:=h3 hl
       by_cases hax:a<=(x:Int)
       ·have q1:¬((x:Int)<=b):=by omega
        have q2:¬((x:Int)<(c:Int)):=by omega
        simp[q1,q2]
       ·simp[hax]
      ·have e:=h2 hl
       have:((x:Int)<(c:Int))↔((x:Int)<=b):=by omega
       simp[this]
     rw[this]
   clear hK
   by_cases hd:i+n<s.length/\ch s (i+n)=45
   ·rw[if_pos hd]at hr
    have he:cG s (i+n) 45=true:=by unfold cG;simp[hd.1,hd.2]
    rw[he,cond_true]
    refine bW (P:=OkQ _) ((bits f,()),(decide (s.length<=i+n+1\/ch s (i+n+1)∈([93,94,45,47,34]:List Int)),())) (λK=>?_) ?_
    ·rcases Nat.lt_or_ge (i+n+1) s.length with h|h
     ·have n0:(0:Int)<=((i+n+1:Nat):Int):=by omega
      rw[decide_eq_false (show ¬((s.length:Nat):Int)<=((i+n+1:Nat):Int) by omega),cond_false,if_pos n0,Int.toNat_natCast,eA h]
      dsimp only
      rw[aa (li _ (by simp[maxLen]) _)]
      have e:decide (s.length<=i+n+1\/ch s (i+n+1)∈([93,94,45,47,34]:List Int))=decide (ch s (i+n+1)∈([93,94,45,47,34]:List Int)):=by
       have:¬s.length<=i+n+1:=by omega
       rw[decide_eq_decide];exact⟨λh=>h.resolve_left this,.inr⟩
      rw[e]
     ·rw[decide_eq_true (show((s.length:Nat):Int)<=((i+n+1:Nat):Int) by omega),cond_true,decide_eq_true (.inl h)]
    dsimp only
    by_cases h4:s.length<=i+n+1\/ch s (i+n+1)∈([93,94,45,47,34]:List Int)
    ·rw[if_pos h4]at hr
     rw[decide_eq_true h4,cond_true]
     subst hr
     exact⟨_,rfl⟩
    rw[if_neg h4]at hr
    obtain⟨hc2,uy⟩:=oU s (show i+n+1<=s.length by omega)
    rw[decide_eq_false h4,cond_false,if_pos hc2,uy,aa (rV (hb.drop _) (oV hs _))]
    dsimp only
    cases uv:rdS (s.drop (i+n+1))with
    |none=>
     rw[uv]at hr
     dsimp only at hr
     subst hr
     exact⟨_,rfl⟩
    |some p2=>
     obtain⟨b,n2⟩:=p2
     rw[uv]at hr
     dsimp only at hr
     dsimp only[rdR]
     obtain⟨hbb,hn3,hn4⟩:=gn (hb.drop _) uv
     rw[List.length_drop]at hn4
     have w3:IntKind.wrap .i64 (((i+n+1:Nat):Int)+(n2:Int))=((i+n+1+n2:Nat):Int):=by
      rw[<-aM (n:=i+n+1+n2) (by omega)];rfl
     simp only[w3]
     refine bW (P:=OkQ _) ((bits f,()),(decide (b<a),())) (λK=>?_) ?_
     ·rw[Bool.not_true,cond_false]
      rfl
     dsimp only
     by_cases hba:b<a
     ·rw[if_pos hba]at hr
      rw[decide_eq_true hba,cond_true]
      subst hr
      exact⟨_,rfl⟩
     ·rw[if_neg hba]at hr
      rw[decide_eq_false hba,cond_false]
      exact go (i+n+1+n2) b (by omega) (by omega) hbb hr
   ·rw[if_neg hd]at hr
    have he:cG s (i+n) 45=false:=by
     unfold cG
     rw[Bool.and_eq_false_iff,decide_eq_false_iff_not,decide_eq_false_iff_not]
     by_cases h:i+n<s.length
     ·exact .inr λh2=>hd ⟨h,h2⟩
     ·exact .inl h
    rw[he,cond_false]
    exact go (i+n) a (by omega) (by omega) ha hr
end
noncomputable section
abbrev RfF:=(List Int×(Int×(Int×Unit)))->Option ((List Pc×(Int×Unit))×Unit)
theorem ff(t:Rx):List.isEmpty t.post=false:=by
 have h1:=t.az
 have h2:=t.aQ
 cases hp:t.post with
 |nil=>rw[hp]at h1;simp at h1;omega
 |cons a b=>rfl
theorem Gn{i n:Nat}(h:i+n<9223372036854775808):IntKind.wrap .i64 ((i:Int)+(n:Int))=((i+n:Nat):Int):=by rw[<-aM h];rfl
theorem aO{i:Nat}(h:i+1<9223372036854775808):IntKind.wrap .i64 ((i:Int)+1)=((i+1:Nat):Int):=by rw[<-aM h];rfl
theorem Gp{s:List Int}(hb:Bytes s)(hs:s.length<=1600){q2 q3 q4 q5:RfF}{inner:Nat->Nat->Option (Rx×Nat)}{i d:Nat}(hd:d<=i)
 (hin:i<s.length->OkQ (inner (i+1) (d+1)) (q2 (s,(((i+1:Nat):Int),(((d+1:Nat):Int),()))))) (a8:gz s (i+1) (inner (i+1) (d+1))):
 OkQ (hY inner s i d) (um N0 q2 q3 q4 q5 (s,((i:Int),((d:Int),())))):=by
 have hsm:s.length<=maxLen:=by unfold maxLen;omega
 unfold um hY
 dsimp only
 have n0:(0:Int)<=(i:Int):=by omega
 refine bW (P:=OkQ _) ((),(decide (s.length<=i\/ch s i∈([124,41,42,43,63,93,47,34]:List Int)),())) (λK=>?_) ?_
 ·rcases Nat.lt_or_ge i s.length with h|h
  ·rw[decide_eq_false (show ¬((s.length:Nat):Int)<=(i:Int) by omega),cond_false,if_pos n0,Int.toNat_natCast,eA h]
   dsimp only
   rw[aa (li _ (by simp[maxLen]) _)]
   have e:decide (s.length<=i\/ch s i∈([124,41,42,43,63,93,47,34]:List Int))=decide (ch s i∈([124,41,42,43,63,93,47,34]:List Int)):=by
    have:¬s.length<=i:=by omega
    rw[decide_eq_decide];exact⟨λh=>h.resolve_left this,.inr⟩
   rw[e]
  ·rw[decide_eq_true (show((s.length:Nat):Int)<=(i:Int) by omega),cond_true,decide_eq_true (.inl h)]
 dsimp only
 by_cases iO:s.length<=i\/ch s i∈([124,41,42,43,63,93,47,34]:List Int)
 ·rw[if_pos iO,decide_eq_true iO,cond_true]
  exact⟨_,rfl⟩
 rw[if_neg iO,decide_eq_false iO,cond_false]
 have hlt:i<s.length:=by omega
 have w1:IntKind.wrap .i64 ((i:Int)+1)=((i+1:Nat):Int):=aO (by omega)
 simp only[if_pos n0,Int.toNat_natCast,eA hlt,w1]
 have hz:([0,0,0,0]:List Int)=ofB (λ_=>false):=by
  rw[show([0,0,0,0]:List Int)=zS by rfl]
  exact(ez.2 (by unfold cm;rw[List.all_eq_true];intro x _;rfl)).symm
 by_cases h46:ch s i=46
 ·rw[decide_eq_true h46,cond_true,if_pos h46,hz,aa (uA _ _)]
  rfl
 rw[decide_eq_false h46,cond_false,if_neg h46]
 by_cases h126:ch s i=126
 ·rw[decide_eq_true h126,cond_true,if_pos h126]
  rfl
 rw[decide_eq_false h126,cond_false,if_neg h126]
 by_cases h91:ch s i=91
 ·rw[decide_eq_true h91,cond_true,if_pos h91]
  have hq:=Gm hb hs (show i+1<=s.length by omega)
  unfold OkQ at hq
  cases ho:brS s (i+1)with
  |none=>
   rw[ho]at hq
   obtain⟨k,hq⟩:=hq
   rw[aa hq]
   exact⟨_,rfl⟩
  |some p=>
   obtain⟨t,j⟩:=p
   rw[ho]at hq
   dsimp only at hq
   rw[aa hq]
   rfl
 rw[decide_eq_false h91,cond_false,if_neg h91]
 by_cases h40:ch s i=40
 ·rw[decide_eq_true h40,cond_true,if_pos h40]
  by_cases h99:99<=d
  ·rw[if_pos h99,decide_eq_true (show(99:Int)<=(d:Int) by omega),cond_true]
   exact⟨_,rfl⟩
  rw[if_neg h99,decide_eq_false (show ¬(99:Int)<=(d:Int) by omega),cond_false]
  have wd:IntKind.wrap .i64 ((d:Int)+1)=((d+1:Nat):Int):=aO (by omega)
  rw[wd]
  have hq:=hin hlt
  unfold OkQ at hq
  cases ho:inner (i+1) (d+1)with
  |none=>
   rw[ho]at hq
   obtain⟨k,hq⟩:=hq
   rw[aa hq]
   exact⟨_,rfl⟩
  |some p=>
   obtain⟨t,j⟩:=p
   rw[ho]at hq
   dsimp only at hq
   obtain⟨r1,r2,r3,r4⟩:=a8 t j ho
   rw[aa hq]
   dsimp only
   refine bW (P:=OkQ _) ((),(decide (¬(j<s.length/\ch s j=41)),())) (λK=>?_) ?_
   ·rw[ff t,cond_false]
    rcases Nat.lt_or_ge j s.length with h|h
    ·have n1:(0:Int)<=(j:Int):=by omega
     have e:decide (¬(j<s.length/\ch s j=41))=!decide (ch s j=41):=by simp[h]
     rw[decide_eq_false (show ¬((s.length:Nat):Int)<=(j:Int) by omega),cond_false,if_pos n1,Int.toNat_natCast,eA h,e]
    ·have e:decide (¬(j<s.length/\ch s j=41))=true:=by simp;omega
     rw[decide_eq_true (show((s.length:Nat):Int)<=(j:Int) by omega),cond_true,e]
   dsimp only
   by_cases hj:j<s.length/\ch s j=41
   ·rw[if_pos hj,decide_eq_false (λh=>h hj),cond_false,aO (by omega)]
    rfl
   ·rw[if_neg hj,decide_eq_true hj,cond_true]
    exact⟨_,rfl⟩
 rw[decide_eq_false h40,cond_false,if_neg h40]
 obtain⟨hc,l9⟩:=oU s (show i<=s.length by omega)
 rw[if_pos hc,l9,aa (rV (hb.drop i) (oV hsm i))]
 dsimp only
 cases hrd:rdS (s.drop i)with
 |none=>exact⟨_,rfl⟩
 |some p=>
  obtain⟨c,n⟩:=p
  obtain⟨hcb,hn1,hn2⟩:=gn (hb.drop i) hrd
  rw[List.length_drop]at hn2
  dsimp only[rdR]
  obtain⟨c,rfl⟩:∃ q:Nat,c=(q:Int):=⟨c.toNat,by omega⟩
  have n1:(0:Int)<=(c:Int):=by omega
  have HF:c<256:=by omega
  rw[Bool.not_true,cond_false,if_pos (show(0:Int)<=256/\(256:Int)<=256 by omega),if_pos (show((256:Int)).toNat*1<=140737488355328 by decide)]
  simp only[if_pos n1,qj,Int.toNat_natCast,jJ _ HF,uz _ HF]
  rw[aa (mh _)]
  simp only[Gn (show i+n<9223372036854775808 by omega)]
  have e:ofB (λx=>false||decide (x=c))=ofB (l7 (c:Int)):=fe λx hx=>by
   unfold l7
   rw[Bool.false_or,decide_eq_decide];omega
  rw[e]
  rfl
theorem wL{s:List Int}(hb:Bytes s)(hs:s.length<=1600){q2 q3 q4 q5:RfF}{inner:Nat->Nat->Option (Rx×Nat)}{i d:Nat}
 (cn:OkQ (hY inner s i d) (q5 (s,((i:Int),((d:Int),()))))) (a8:gz s i (hY inner s i d)):
 OkQ (gk inner s i d) (ul N0 q2 q3 q4 q5 (s,((i:Int),((d:Int),())))):=by
 have hsm:s.length<=maxLen:=by unfold maxLen;omega
 unfold ul
 dsimp only
 unfold gk
 unfold OkQ at cn
 cases ho:hY inner s i d with
 |none=>
  rw[ho]at cn
  obtain⟨k0,hq⟩:=cn
  rw[aa hq]
  refine bC (λm x=>x=((),(k0,([],())))) (OkQ none) ?_ N0 0 _ (by unfold N0;omega) rfl
  rintro m x rfl k hk
  exact⟨_,rfl⟩
 |some p=>
  obtain⟨t0,j0⟩:=p
  rw[ho]at cn
  dsimp only at cn
  have hr0:=a8 t0 j0 ho
  rw[aa cn]
  dsimp only
  generalize hrs:kz s s.length.succ j0 t0=res
  refine bC (λm x=>∃ (j:Nat) (t:Rx) (aS:Nat),x=((),((j:Int),(t.post,())))/\Res s i t j/\s.length-j<aS/\m=s.length-j/\kz s aS j t=res) (OkQ res) ?_ N0 (s.length-j0) _ (by unfold N0;omega) ⟨j0,t0,_,rfl,hr0,by omega,rfl,hrs⟩
  rintro m x ⟨j,t,aS,rfl,hr,hf,hm,hl⟩ k hk
  obtain⟨aS,rfl⟩:∃ q,aS=q+1:=⟨aS-1,by omega⟩
  simp only[kz]at hl
  dsimp only
  have n1:(0:Int)<=(j:Int):=by omega
  refine bW (P:=OkQ _) ((),(decide (j<s.length/\ch s j∈([42,43,63]:List Int)),())) (λK=>?_) ?_
  ·rw[ff t,Bool.not_false,cond_true]
   rcases Nat.lt_or_ge j s.length with h|h
   ·rw[decide_eq_true (show(j:Int)<((s.length:Nat):Int) by omega),cond_true,if_pos n1,Int.toNat_natCast,eA h]
    dsimp only
    rw[aa (li _ (by simp[maxLen]) _)]
    have e:decide (j<s.length/\ch s j∈([42,43,63]:List Int))=decide (ch s j∈([42,43,63]:List Int)):=by
     rw[decide_eq_decide];exact⟨λh=>h.2,λh2=>⟨h,h2⟩⟩
    rw[e]
   ·have e:decide (j<s.length/\ch s j∈([42,43,63]:List Int))=false:=decide_eq_false (λh2=>by omega)
    rw[decide_eq_false (show ¬(j:Int)<((s.length:Nat):Int) by omega),cond_false,e]
  dsimp only
  by_cases hc:j<s.length/\ch s j∈([42,43,63]:List Int)
  ·rw[if_pos hc]at hl
   obtain⟨g1,g2,g3,g4⟩:=hr
   have tl:=t.az
   rw[decide_eq_true hc,cond_true,if_pos n1,Int.toNat_natCast,eA hc.1]
   dsimp only
   refine bW (P:=OkQ _) ((),((if ch s j=43 then 5 else 4),())) (λK=>?_) ?_
   ·by_cases h:ch s j=43
    ·rw[decide_eq_true h,cond_true,if_pos h]
    ·rw[decide_eq_false h,cond_false,if_neg h]
   dsimp only
   rw[if_pos n1]
   refine bW (P:=OkQ _) ((),(eQ (ch s j),())) (λK=>?_) ?_
   ·unfold eQ
    by_cases h:ch s j=63
    ·rw[decide_eq_true h,cond_true,h];rfl
    ·rw[decide_eq_false h,cond_false]
     have h3:ch s j=42\/ch s j=43:=by
      have:=hc.2
      simp[h]at this
      exact this
     rcases h3 with h3|h3 <;> rw[h3] <;> rfl
   dsimp only
   have c1:(([]:List Pc).length+t.post.length)*40<=140737488355328:=by simp;omega
   have c2:([]:List Pc).length+t.post.length<=9223372036854775807:=by simp;omega
   have c3:((([]:List Pc)++t.post).length+([(eQ (ch s j),[0,0,0,0])]:List Pc).length)*40<=140737488355328:=by simp;omega
   have c4:(([]:List Pc)++t.post).length+([(eQ (ch s j),[0,0,0,0])]:List Pc).length<=9223372036854775807:=by simp;omega
   have e:([]:List Pc)++t.post++[(eQ (ch s j),[0,0,0,0])]=(Rx.rep (eQ (ch s j)) t).post:=rfl
   rw[if_pos c1,if_pos c2,if_pos c3,if_pos c4,e,ff,cond_false,aO (by omega)]
   exact hk (s.length-(j+1)) _ (by omega) ⟨j+1,_,aS,rfl,⟨by omega,by omega,by simp only[Rx.len];omega,ma _,g4⟩,by omega,rfl,hl⟩
  ·rw[if_neg hc]at hl
   rw[decide_eq_false hc,cond_false]
   subst hl
   rfl
end
noncomputable section
theorem Gq{s:List Int}(hb:Bytes s)(hs:s.length<=1600){q2 q3 q4 q5:RfF}{inner:Nat->Nat->Option (Rx×Nat)}{i d:Nat}(hi:i<=s.length)
 (aL:∀ j,i<=j->j<=s.length->OkQ (gk inner s j d) (q4 (s,((j:Int),((d:Int),()))))) (a8:∀ j,i<=j->gz s j (gk inner s j d)):
 OkQ (gy inner s i d) (uk N0 q2 q3 q4 q5 (s,((i:Int),((d:Int),())))):=by
 have hsm:s.length<=maxLen:=by unfold maxLen;omega
 unfold uk
 dsimp only
 unfold gy
 have cn:=aL i (Nat.le_refl _) hi
 unfold OkQ at cn
 cases ho:gk inner s i d with
 |none=>
  rw[ho]at cn
  obtain⟨k0,hq⟩:=cn
  rw[aa hq]
  refine bC (λm x=>x=((),(k0,([],())))) (OkQ none) ?_ N0 0 _ (by unfold N0;omega) rfl
  rintro m x rfl k hk
  exact⟨_,rfl⟩
 |some p=>
  obtain⟨t0,j0⟩:=p
  rw[ho]at cn
  dsimp only at cn
  have hr0:=a8 i (Nat.le_refl _) t0 j0 ho
  rw[aa cn]
  dsimp only
  generalize hrs:kY inner s d s.length.succ j0 t0=res
  refine bC (λm x=>∃ (j:Nat) (t:Rx) (aS:Nat),x=((),((j:Int),(t.post,())))/\Res s i t j/\s.length-j<aS/\m=s.length-j/\kY inner s d aS j t=res) (OkQ res) ?_ N0 (s.length-j0) _ (by unfold N0;omega) ⟨j0,t0,_,rfl,hr0,by omega,rfl,hrs⟩
  rintro m x ⟨j,t,aS,rfl,hr,hf,hm,hl⟩ k hk
  obtain⟨aS,rfl⟩:∃ q,aS=q+1:=⟨aS-1,by omega⟩
  simp only[kY]at hl
  dsimp only
  have n1:(0:Int)<=(j:Int):=by omega
  refine bW (P:=OkQ _) ((),(decide (j<s.length/\ch s j∉([124,41]:List Int)),())) (λK=>?_) ?_
  ·rw[ff t,Bool.not_false,cond_true]
   rcases Nat.lt_or_ge j s.length with h|h
   ·rw[decide_eq_true (show(j:Int)<((s.length:Nat):Int) by omega),cond_true,if_pos n1,Int.toNat_natCast,eA h]
    dsimp only
    rw[aa (li _ (by simp[maxLen]) _)]
    have e:decide (j<s.length/\ch s j∉([124,41]:List Int))=!decide (ch s j∈([124,41]:List Int)):=by
     rw[<-decide_not,decide_eq_decide];exact⟨λh=>h.2,λh2=>⟨h,h2⟩⟩
    rw[e]
   ·have e:decide (j<s.length/\ch s j∉([124,41]:List Int))=false:=decide_eq_false (λh2=>by omega)
    rw[decide_eq_false (show ¬(j:Int)<((s.length:Nat):Int) by omega),cond_false,e]
  dsimp only
  by_cases hc:j<s.length/\ch s j∉([124,41]:List Int)
  ·rw[if_pos hc]at hl
   obtain⟨g1,g2,g3,g4⟩:=hr
   have tl:=t.az
   rw[decide_eq_true hc,cond_true]
   have hq:=aL j (by omega) (by omega)
   unfold OkQ at hq
   cases h2:gk inner s j d with
   |none=>
    rw[h2]at hq hl
    obtain⟨k0,hq⟩:=hq
    rw[aa hq]
    subst hl
    exact⟨_,rfl⟩
   |some p=>
    obtain⟨t2,j2⟩:=p
    rw[h2]at hq hl
    dsimp only at hq hl
    obtain⟨f1,f2,f3,f4⟩:=a8 j (by omega) t2 j2 h2
    have tl2:=t2.az
    rw[aa hq]
    dsimp only
    have c1:(([]:List Pc).length+t.post.length)*40<=140737488355328:=by simp;omega
    have c2:([]:List Pc).length+t.post.length<=9223372036854775807:=by simp;omega
    have c3:((([]:List Pc)++t.post).length+t2.post.length)*40<=140737488355328:=by simp;omega
    have c4:(([]:List Pc)++t.post).length+t2.post.length<=9223372036854775807:=by simp;omega
    have c5:((([]:List Pc)++t.post++t2.post).length+([(2,[0,0,0,0])]:List Pc).length)*40<=140737488355328:=by simp;omega
    have c6:(([]:List Pc)++t.post++t2.post).length+([(2,[0,0,0,0])]:List Pc).length<=9223372036854775807:=by simp;omega
    have e:([]:List Pc)++t.post++t2.post++[(2,[0,0,0,0])]=(Rx.cat t t2).post:=rfl
    rw[ff t2,cond_false,if_pos c1,if_pos c2,if_pos c3,if_pos c4,if_pos c5,if_pos c6,e,ff,cond_false]
    exact hk (s.length-j2) _ (by omega) ⟨j2,.cat t t2,aS,rfl,⟨by omega,by omega,by simp only[Rx.len];omega,g4,f4⟩,by omega,rfl,hl⟩
  ·rw[if_neg hc]at hl
   rw[decide_eq_false hc,cond_false]
   subst hl
   rfl
theorem wM{s:List Int}(hb:Bytes s)(hs:s.length<=1600){q2 q3 q4 q5:RfF}{inner:Nat->Nat->Option (Rx×Nat)}{i d:Nat}(hi:i<=s.length)
 (rU:∀ j,i<=j->j<=s.length->OkQ (gy inner s j d) (q3 (s,((j:Int),((d:Int),()))))) (a8:∀ j,i<=j->gz s j (gy inner s j d)):
 OkQ (us inner s i d) (uj N0 q2 q3 q4 q5 (s,((i:Int),((d:Int),())))):=by
 have hsm:s.length<=maxLen:=by unfold maxLen;omega
 unfold uj
 dsimp only
 unfold us
 have cn:=rU i (Nat.le_refl _) hi
 unfold OkQ at cn
 cases ho:gy inner s i d with
 |none=>
  rw[ho]at cn
  obtain⟨k0,hq⟩:=cn
  rw[aa hq]
  refine bC (λm x=>x=((),(k0,([],())))) (OkQ none) ?_ N0 0 _ (by unfold N0;omega) rfl
  rintro m x rfl k hk
  exact⟨_,rfl⟩
 |some p=>
  obtain⟨t0,j0⟩:=p
  rw[ho]at cn
  dsimp only at cn
  have hr0:=a8 i (Nat.le_refl _) t0 j0 ho
  rw[aa cn]
  dsimp only
  generalize hrs:kZ inner s d s.length.succ j0 t0=res
  refine bC (λm x=>∃ (j:Nat) (t:Rx) (aS:Nat),x=((),((j:Int),(t.post,())))/\Res s i t j/\s.length-j<aS/\m=s.length-j/\kZ inner s d aS j t=res) (OkQ res) ?_ N0 (s.length-j0) _ (by unfold N0;omega) ⟨j0,t0,_,rfl,hr0,by omega,rfl,hrs⟩
  rintro m x ⟨j,t,aS,rfl,hr,hf,hm,hl⟩ k hk
  obtain⟨aS,rfl⟩:∃ q,aS=q+1:=⟨aS-1,by omega⟩
  simp only[kZ]at hl
  dsimp only
  have n1:(0:Int)<=(j:Int):=by omega
  refine bW (P:=OkQ _) ((),(decide (j<s.length/\ch s j=124),())) (λK=>?_) ?_
  ·rw[ff t,Bool.not_false,cond_true]
   rcases Nat.lt_or_ge j s.length with h|h
   ·rw[decide_eq_true (show(j:Int)<((s.length:Nat):Int) by omega),cond_true,if_pos n1,Int.toNat_natCast,eA h]
    have e:decide (j<s.length/\ch s j=124)=decide (ch s j=124):=by
     rw[decide_eq_decide];exact⟨λh=>h.2,λh2=>⟨h,h2⟩⟩
    rw[e]
   ·have e:decide (j<s.length/\ch s j=124)=false:=decide_eq_false (λh2=>by omega)
    rw[decide_eq_false (show ¬(j:Int)<((s.length:Nat):Int) by omega),cond_false,e]
  dsimp only
  by_cases hc:j<s.length/\ch s j=124
  ·rw[if_pos hc]at hl
   obtain⟨g1,g2,g3,g4⟩:=hr
   have tl:=t.az
   rw[decide_eq_true hc,cond_true,aO (by omega)]
   have hq:=rU (j+1) (by omega) (by omega)
   unfold OkQ at hq
   cases h2:gy inner s (j+1) d with
   |none=>
    rw[h2]at hq hl
    obtain⟨k0,hq⟩:=hq
    rw[aa hq]
    subst hl
    exact⟨_,rfl⟩
   |some p=>
    obtain⟨t2,j2⟩:=p
    rw[h2]at hq hl
    dsimp only at hq hl
    obtain⟨f1,f2,f3,f4⟩:=a8 (j+1) (by omega) t2 j2 h2
    have tl2:=t2.az
    rw[aa hq]
    dsimp only
    have c1:(([]:List Pc).length+t.post.length)*40<=140737488355328:=by simp;omega
    have c2:([]:List Pc).length+t.post.length<=9223372036854775807:=by simp;omega
    have c3:((([]:List Pc)++t.post).length+t2.post.length)*40<=140737488355328:=by simp;omega
    have c4:(([]:List Pc)++t.post).length+t2.post.length<=9223372036854775807:=by simp;omega
    have c5:((([]:List Pc)++t.post++t2.post).length+([(3,[0,0,0,0])]:List Pc).length)*40<=140737488355328:=by simp;omega
    have c6:(([]:List Pc)++t.post++t2.post).length+([(3,[0,0,0,0])]:List Pc).length<=9223372036854775807:=by simp;omega
    have e:([]:List Pc)++t.post++t2.post++[(3,[0,0,0,0])]=(Rx.alt t t2).post:=rfl
    rw[ff t2,cond_false,if_pos c1,if_pos c2,if_pos c3,if_pos c4,if_pos c5,if_pos c6,e,ff,cond_false]
    exact hk (s.length-j2) _ (by omega) ⟨j2,.alt t t2,aS,rfl,⟨by omega,by omega,by simp only[Rx.len];omega,g4,f4⟩,by omega,rfl,hl⟩
  ·rw[if_neg hc]at hl
   rw[decide_eq_false hc,cond_false]
   subst hl
   rfl
theorem Gr{s:List Int}(hb:Bytes s)(hs:s.length<=1600):∀ (n D i d:Nat),4*n<=D->s.length-i<n->i<=s.length->d<=i->OkQ (fJ s n i d) ((bp N0 D).1 (s,((i:Int),((d:Int),())))):=by
 intro n
 induction n with
 |zero=>intro D i d _ h;omega
 |succ n ih=>
  intro D i d hD hn hi hd
  obtain⟨D,rfl⟩:∃ q,D=q+1+1+1+1:=⟨D-4,by omega⟩
  have a8:∀ i d,s.length-i<n->gz s i (fJ s n i d):=λi d h=>fu hb n i d h
  have An:∀ j,i<=j->gz s (j+1) (fJ s n (j+1) (d+1)):=λj hij t j2 h=>by
   rcases Nat.lt_or_ge j s.length with hlt|hge
   ·exact a8 (j+1) (d+1) (by omega) t j2 h
   ·cases n with
    |zero=>cases h
    |succ n=>exact fu hb (n+1) (j+1) (d+1) (by omega) t j2 h
  have cn:∀ j,i<=j->j<=s.length->OkQ (hY (fJ s n) s j d) ((bp N0 (D+1)).2.2.2 (s,((j:Int),((d:Int),())))):=λj hij hj=>
   Gp (q2:=(bp N0 (D)).1) (q3:=(bp N0 (D)).2.1) (q4:=(bp N0 (D)).2.2.1) (q5:=(bp N0 (D)).2.2.2) hb hs (Nat.le_trans hd hij) (λhlt=>ih D (j+1) (d+1) (by omega) (by omega) (by omega) (by omega)) (An j hij)
  have aL:∀ j,i<=j->j<=s.length->OkQ (gk (fJ s n) s j d) ((bp N0 (D+1+1)).2.2.1 (s,((j:Int),((d:Int),())))):=λj hij hj=>
   wL (q2:=(bp N0 (D+1)).1) (q3:=(bp N0 (D+1)).2.1) (q4:=(bp N0 (D+1)).2.2.1) (q5:=(bp N0 (D+1)).2.2.2) hb hs (cn j hij hj) (oS hb (An j hij))
  have rU:∀ j,i<=j->j<=s.length->OkQ (gy (fJ s n) s j d) ((bp N0 (D+1+1+1)).2.1 (s,((j:Int),((d:Int),())))):=λj hij hj=>
   Gq (q2:=(bp N0 (D+1+1)).1) (q3:=(bp N0 (D+1+1)).2.1) (q4:=(bp N0 (D+1+1)).2.2.1) (q5:=(bp N0 (D+1+1)).2.2.2) hb hs hj (λj2 hj2 hj3=>aL j2 (Nat.le_trans hij hj2) hj3) (λj2 hj2=>ld hb (An j2 (Nat.le_trans hij hj2)))
  exact wM (q2:=(bp N0 (D+1+1+1)).1) (q3:=(bp N0 (D+1+1+1)).2.1) (q4:=(bp N0 (D+1+1+1)).2.2.1) (q5:=(bp N0 (D+1+1+1)).2.2.2) hb hs hi rU (λj hij t j2 h=>lg hb n a8 (by omega) t j2 h)
theorem Jw{s:List Int}(hb:Bytes s):p97 N0 (s,())=some (C6 (cY s)):=by
 unfold p97 cY
 dsimp only
 by_cases hs:1600<s.length
 ·rw[if_pos hs,decide_eq_true (show(1600:Int)<((s.length:Nat):Int) by omega),cond_true]
  rfl
 rw[if_neg hs,decide_eq_false (show ¬(1600:Int)<((s.length:Nat):Int) by omega),cond_false]
 have hq:OkQ (fJ s s.length.succ 0 0) (Jh N0 (s,(((0:Nat):Int),(((0:Nat):Int),())))):=Gr hb (by omega) s.length.succ N0 0 0 (by unfold N0;omega) (by omega) (Nat.zero_le _) (Nat.le_refl _)
 have e0:(s,(((0:Nat):Int),(((0:Nat):Int),())))=(s,((0:Int),((0:Int),()))):=rfl
 rw[e0]at hq
 unfold OkQ at hq
 cases ho:fJ s s.length.succ 0 0 with
 |none=>
  rw[ho]at hq
  obtain⟨k,hq⟩:=hq
  rw[aa hq]
  rfl
 |some p=>
  obtain⟨t,i⟩:=p
  rw[ho]at hq
  dsimp only at hq
  rw[aa hq]
  dsimp only
  refine aq ((),(decide (i<s.length),())) (λK=>?_) ?_
  ·have:decide (((i:Nat):Int)<((s.length:Nat):Int))=decide (i<s.length):=by rw[decide_eq_decide];omega
   rw[ff t,cond_false,this]
  dsimp only
  by_cases h2:i<s.length
  ·rw[if_pos h2,decide_eq_true h2];rfl
  rw[if_neg h2,decide_eq_false h2,cond_false]
  rw[t.az]
  by_cases h3:400<t.len
  ·rw[if_pos h3,decide_eq_true (show(400:Int)<((t.len:Nat):Int) by omega)];rfl
  ·rw[if_neg h3,decide_eq_false (show ¬(400:Int)<((t.len:Nat):Int) by omega)];rfl
end
noncomputable section
def bq(k:Int):Int:=if k=0\/k=1 then 0 else if k=2\/k=3 then 2 else 1
theorem De:∀ k:Fin 7,Aj N0 (((k.val:Nat):Int),())=some ((bq ((k.val:Nat):Int),()),()):=by decide +kernel
theorem nu{k:Int}(h:0<=k/\k<=6):Aj N0 (k,())=some ((bq k,()),()):=by
 have:=De ⟨k.toNat,by omega⟩
 simp only[Int.toNat_of_nonneg h.1]at this
 exact this
theorem wN{k:Int}{a:Rx}(h:(Rx.rep k a).ok):0<=k/\k<=6/\bq k=1:=by
 rcases h.1 with rfl|rfl|rfl <;> decide
theorem wO{r:List Pc}(hr:r.length<=100000)(body)(Mq:body=(λ(v3:Unit×(Int×(Int×Unit)))=>(λ(v4:(Unit×(Int×(Int×Unit)))->Option ((Int×Unit)×Unit))=>
 (bif decide (0<=v3.2.2.1)then(if 0<=v3.2.2.1 then(match r[(v3.2.2.1).toNat]? with|some v5=>(ae (Aj N0 (v5.1,())) (λv6=>(bif decide ((IntKind.wrap .i64 ((IntKind.wrap .i64 (v3.2.1-1))+v6.1.1))=0)then(some ((v3.2.2.1,()),()))else(v4 ((),((IntKind.wrap .i64 ((IntKind.wrap .i64 (v3.2.1-1))+v6.1.1)),((IntKind.wrap .i64 (v3.2.2.1-1)),())))))))|none=>none)else none)else(some ((0,()),())))))):
 ∀ (t:Rx) (F n:Nat) (l rest:List Pc),t.ok->r=l++t.post++rest->1<=n->n+t.len<=1000000->ap body (F+t.len) ((),((n:Int),(((l.length+t.len:Nat):Int)-1,())))=if n=1 then some ((((l.length:Nat):Int),()),())else ap body F ((),((n:Int)-1,(((l.length:Nat):Int)-1,()))):=by
 -- one step
 have step:∀ (F:Nat) (n i:Nat) (p:Pc),r[i]?=some p->0<=p.1/\p.1<=6->1<=n->n<=1000000->
  ap body (F+1) ((),((n:Int),((i:Int),())))=if(n:Int)-1+bq p.1=0 then some ((((i:Nat):Int),()),())else ap body F ((),((n:Int)-1+bq p.1,((i:Int)-1,()))):=by
  intro F n i p hp hk hn1 hn2
  have hi:i<r.length:=by
   rcases Nat.lt_or_ge i r.length with h|h
   ·exact h
   ·rw[List.getElem?_eq_none h]at hp;cases hp
  have ht:0<=bq p.1/\bq p.1<=2:=by
   unfold bq
   split
   ·omega
   ·split <;> omega
  rw[bL,Mq]
  simp only
  have n0:(0:Int)<=(i:Int):=by omega
  have w1:IntKind.wrap .i64 ((n:Int)-1)=(n:Int)-1:=aJ (by omega) (by omega)
  have w2:IntKind.wrap .i64 ((n:Int)-1+bq p.1)=(n:Int)-1+bq p.1:=aJ (by omega) (by omega)
  have w3:IntKind.wrap .i64 ((i:Int)-1)=(i:Int)-1:=aJ (by omega) (by omega)
  simp only[decide_eq_true n0,cond_true,if_pos n0,Int.toNat_natCast,hp,nu hk,aK,w1,w2,w3]
  by_cases h:(n:Int)-1+bq p.1=0
  ·rw[if_pos h,decide_eq_true h,cond_true]
  ·rw[if_neg h,decide_eq_false h,cond_false]
 intro t
 induction t with
 |eps=>
  intro F n l rest _ hr2 hn1 hn2
  simp only[Rx.len]
  have hp:r[l.length]?=some (0,zS):=by rw[hr2];simp[Rx.post]
  have e:((l.length+1:Nat):Int)-1=((l.length:Nat):Int):=by omega
  rw[e,step F n l.length _ hp (by decide) hn1 (by omega)]
  have e2:bq ((0,zS):Pc).1=0:=rfl
  rw[e2,Int.add_zero]
  by_cases h:n=1
  ·rw[if_pos h,if_pos (by omega)]
  ·rw[if_neg h,if_neg (by omega)]
 |set S=>
  intro F n l rest _ hr2 hn1 hn2
  simp only[Rx.len]
  have hp:r[l.length]?=some (1,S):=by rw[hr2];simp[Rx.post]
  have e:((l.length+1:Nat):Int)-1=((l.length:Nat):Int):=by omega
  rw[e,step F n l.length _ hp ⟨(by decide:(0:Int)<=1),(by decide:(1:Int)<=6)⟩ hn1 (by omega)]
  have e2:bq ((1,S):Pc).1=0:=rfl
  rw[e2,Int.add_zero]
  by_cases h:n=1
  ·rw[if_pos h,if_pos (by omega)]
  ·rw[if_neg h,if_neg (by omega)]
 |cat a b iha ihb=>
  intro F n l rest hok hr2 hn1 hn2
  simp only[Rx.len]at hn2 |-
  have hp:r[l.length+(a.len+b.len)]?=some (2,zS):=by
   rw[hr2]
   simp[Rx.post,<-a.az,<-b.az,Nat.add_assoc]
  have e:((l.length+(a.len+b.len+1):Nat):Int)-1=((l.length+(a.len+b.len):Nat):Int):=by omega
  rw[e,show F+(a.len+b.len+1)=(F+a.len+b.len)+1 by omega,step _ n _ _ hp (by decide) hn1 (by omega)]
  have e2:bq ((2,zS):Pc).1=2:=rfl
  rw[e2,if_neg (by omega)]
  have hb:=ihb (F+a.len) (n+1) (l++a.post) ([(2,zS)]++rest) hok.2 (by rw[hr2];simp[Rx.post]) (by omega) (by omega)
  rw[if_neg (by omega)]at hb
  have e3:(n:Int)-1+2=((n+1:Nat):Int):=by omega
  have e4:((l.length+(a.len+b.len):Nat):Int)-1=(((l++a.post).length+b.len:Nat):Int)-1:=by rw[List.length_append,a.az];omega
  rw[e3,e4,hb]
  have ha:=iha F n l (b.post++[(2,zS)]++rest) hok.1 (by rw[hr2];simp[Rx.post]) hn1 (by omega)
  have e5:((n+1:Nat):Int)-1=(n:Int):=by omega
  rw[e5,List.length_append,a.az,ha]
 |alt a b iha ihb=>
  intro F n l rest hok hr2 hn1 hn2
  simp only[Rx.len]at hn2 |-
  have hp:r[l.length+(a.len+b.len)]?=some (3,zS):=by
   rw[hr2]
   simp[Rx.post,<-a.az,<-b.az,Nat.add_assoc]
  have e:((l.length+(a.len+b.len+1):Nat):Int)-1=((l.length+(a.len+b.len):Nat):Int):=by omega
  rw[e,show F+(a.len+b.len+1)=(F+a.len+b.len)+1 by omega,step _ n _ _ hp (by decide) hn1 (by omega)]
  have e2:bq ((3,zS):Pc).1=2:=rfl
  rw[e2,if_neg (by omega)]
  have hb:=ihb (F+a.len) (n+1) (l++a.post) ([(3,zS)]++rest) hok.2 (by rw[hr2];simp[Rx.post]) (by omega) (by omega)
  rw[if_neg (by omega)]at hb
  have e3:(n:Int)-1+2=((n+1:Nat):Int):=by omega
  have e4:((l.length+(a.len+b.len):Nat):Int)-1=(((l++a.post).length+b.len:Nat):Int)-1:=by rw[List.length_append,a.az];omega
  rw[e3,e4,hb]
  have ha:=iha F n l (b.post++[(3,zS)]++rest) hok.1 (by rw[hr2];simp[Rx.post]) hn1 (by omega)
  have e5:((n+1:Nat):Int)-1=(n:Int):=by omega
  rw[e5,List.length_append,a.az,ha]
 |rep k a iha=>
  intro F n l rest hok hr2 hn1 hn2
  simp only[Rx.len]at hn2 |-
  obtain⟨k1,k2,k3⟩:=wN hok
  have hp:r[l.length+a.len]?=some (k,zS):=by
   rw[hr2]
   simp[Rx.post,<-a.az]
  have e:((l.length+(a.len+1):Nat):Int)-1=((l.length+a.len:Nat):Int):=by omega
  rw[e,show F+(a.len+1)=(F+a.len)+1 by omega,step _ n _ _ hp ⟨k1,k2⟩ hn1 (by omega)]
  have e2:bq ((k,zS):Pc).1=1:=k3
  rw[e2,if_neg (by omega)]
  have ha:=iha F n l ([(k,zS)]++rest) hok.2 (by rw[hr2];simp[Rx.post]) hn1 (by omega)
  have e5:(n:Int)-1+1=(n:Int):=by omega
  rw[e5,ha]
theorem x3{l rest:List Pc}{t:Rx}(hok:t.ok)(hl:(l++t.post++rest).length<=100000):wF N0 (l++t.post++rest,(((l.length+t.len:Nat):Int)-1,()))=some ((((l.length:Nat):Int),()),()):=by
 have hlen:t.len<=100000:=by
  have:=t.az
  rw[List.length_append,List.length_append]at hl
  omega
 have h:=wO hl _ rfl t (N0-t.len) 1 l rest hok rfl (by omega) (by omega)
 rw[if_pos rfl,show N0-t.len+t.len=N0 by unfold N0;omega]at h
 exact h
end
noncomputable section
theorem ll{α:Type}(l m rest:List α):aY (l++m++rest) ((l.length:Nat):Int) ((l.length+m.length:Nat):Int)=m:=by
 unfold aY
 rw[Int.toNat_natCast,Int.toNat_natCast,Nat.add_sub_cancel_left,List.append_assoc,List.drop_left,List.take_left]
theorem gK{r0:List Pc}{p:Pc}(h:r0.length<=100000):IntKind.wrap .i64 ((((r0++[p]).length:Nat):Int)-1)=((r0.length:Nat):Int)/\(r0++[p])[r0.length]?=some p:=by
 constructor
 ·have:((((r0++[p]).length:Nat):Int)-1)=((r0.length:Nat):Int):=by rw[List.length_append];simp
  rw[this];exact aM (by omega)
 ·simp
theorem Ao{p:Pc}(hk:0<=p.1/\p.1<=6)(ht:bq p.1=0):rK N0 ([p],())=some (([],()),()):=by
 obtain⟨h1,h2⟩:=gK (r0:=[]) (p:=p) (by simp)
 unfold rK
 have n0:(0:Int)<=((([]:List Pc).length:Nat):Int):=by omega
 rw[List.nil_append]at h1 h2
 simp only[h1,if_pos n0,Int.toNat_natCast,h2,nu hk,aK,ht]
 refine au (λm x r=>x=((),([],(((([]:List Pc).length:Nat):Int),((0:Int),()))))/\r=some (([],()),())) ?_ N0 0 _ _ (by unfold N0;omega) ⟨rfl,rfl⟩
 rintro m x r ⟨rfl,rfl⟩ k hk
 rfl
theorem qk{rest:List Pc}{t:Rx}(hok:t.ok)(hl:(t.post++rest).length<=100000):wF N0 (t.post++rest,(((t.post.length:Nat):Int)-1,()))=some (((0:Int),()),()):=by
 have e1:([]:List Pc)++t.post=t.post:=List.nil_append _
 have:=x3 (l:=[]) (rest:=rest) (t:=t) hok (by rw[e1];exact hl)
 have e2:([]:List Pc).length+t.len=t.post.length:=by rw[t.az,List.length_nil,Nat.zero_add]
 have e3:((([]:List Pc).length:Nat):Int)=0:=rfl
 rw[e1,e2,e3]at this
 exact this
theorem Df{a:Rx}{p:Pc}(ha:a.ok)(hl:a.len<=10000)(hk:0<=p.1/\p.1<=6)(ht:bq p.1=1):rK N0 (a.post++[p],())=some (([a.post],()),()):=by
 have pl:=a.az
 obtain⟨h1,h2⟩:=gK (r0:=a.post) (p:=p) (by omega)
 have n0:(0:Int)<=((a.post.length:Nat):Int):=by omega
 have q1:wF N0 (a.post++[p],(((a.post.length:Nat):Int)-1,()))=some (((0:Int),()),()):=by
  exact qk ha (by rw[List.length_append,List.length_singleton];omega)
 unfold rK
 simp only[h1]
 rw[if_pos n0,Int.toNat_natCast,h2]
 simp only
 rw[aa (nu hk),ht]
 simp only
 refine au (λm x r=>((m=1/\x=((),([],(((a.post.length:Nat):Int),((1:Int),())))))\/(m=0/\x=((),([a.post],((0:Int),((0:Int),()))))))/\r=some (([a.post],()),())) ?_ N0 1 _ _ (by unfold N0;omega) ⟨.inl ⟨rfl,rfl⟩,rfl⟩
 rintro m x r ⟨hx,rfl⟩ k hk
 rcases hx with⟨rfl,rfl⟩|⟨rfl,rfl⟩
 ·have w1:IntKind.wrap .i64 (((a.post.length:Nat):Int)-1)=((a.post.length:Nat):Int)-1:=aJ (by omega) (by omega)
  have c0:(0:Int)<=0/\(0:Int)<=((a.post.length:Nat):Int)/\((a.post.length:Nat):Int)<=(((a.post++[p]).length:Nat):Int):=⟨by omega,by omega,by rw[List.length_append];omega⟩
  have l9:aY (a.post++[p]) 0 ((a.post.length:Nat):Int)=a.post:=by
   have:=ll ([]:List Pc) a.post [p]
   simpa using this
  have f1:(([a.post]:List (List Pc)).length+([]:List (List Pc)).length)*24<=140737488355328:=by simp
  have f2:([a.post]:List (List Pc)).length+([]:List (List Pc)).length<=9223372036854775807:=by simp
  have w2:IntKind.wrap .i64 ((1:Int)-1)=0:=aJ (by omega) (by omega)
  simp only[show decide ((0:Int)<1)=true from rfl,cond_true,w1,q1,aK,if_pos c0,l9,if_pos f1,if_pos f2,w2,List.append_nil]
  exact hk 0 _ _ (by omega) ⟨.inr ⟨rfl,rfl⟩,rfl⟩
 ·simp only[show decide ((0:Int)<0)=false from rfl,cond_false]
theorem uB{a b:Rx}{p:Pc}(ha:a.ok)(hb:b.ok)(hl:a.len+b.len<=10000)(hk:0<=p.1/\p.1<=6)(ht:bq p.1=2):rK N0 (a.post++b.post++[p],())=some (([a.post,b.post],()),()):=by
 have pl:=a.az
 have pl2:=b.az
 have PL:(a.post++b.post++[p]).length=(a.post++b.post).length+1:=by rw[List.length_append];rfl
 have lab:(a.post++b.post).length=a.post.length+b.post.length:=List.length_append
 obtain⟨h1,h2⟩:=gK (r0:=a.post++b.post) (p:=p) (by rw[List.length_append];omega)
 have n0:(0:Int)<=(((a.post++b.post).length:Nat):Int):=by omega
 have q1:wF N0 (a.post++b.post++[p],((((a.post++b.post).length:Nat):Int)-1,()))=some ((((a.post.length:Nat):Int),()),()):=by
  have:=x3 (l:=a.post) (rest:=[p]) (t:=b) hb (by simp;omega)
  rw[List.length_append,pl2]
  exact this
 have q2:wF N0 (a.post++b.post++[p],(((a.post.length:Nat):Int)-1,()))=some (((0:Int),()),()):=by
  rw[List.append_assoc]
  exact qk ha (by rw[List.length_append,List.length_append,List.length_singleton];omega)
 unfold rK
 simp only[h1]
 rw[if_pos n0,Int.toNat_natCast,h2]
 simp only
 rw[aa (nu hk),ht]
 simp only
 refine au (λm x r=>((m=2/\x=((),([],((((a.post++b.post).length:Nat):Int),((2:Int),())))))\/(m=1/\x=((),([b.post],(((a.post.length:Nat):Int),((1:Int),())))))\/(m=0/\x=((),([a.post,b.post],((0:Int),((0:Int),()))))))/\r=some (([a.post,b.post],()),())) ?_ N0 2 _ _ (by unfold N0;omega) ⟨.inl ⟨rfl,rfl⟩,rfl⟩
 rintro m x r ⟨hx,rfl⟩ k hk
 rcases hx with⟨rfl,rfl⟩|⟨rfl,rfl⟩|⟨rfl,rfl⟩
 ·have w1:IntKind.wrap .i64 ((((a.post++b.post).length:Nat):Int)-1)=(((a.post++b.post).length:Nat):Int)-1:=aJ (by omega) (by rw[List.length_append];omega)
  have c0:(0:Int)<=((a.post.length:Nat):Int)/\((a.post.length:Nat):Int)<=(((a.post++b.post).length:Nat):Int)/\(((a.post++b.post).length:Nat):Int)<=(((a.post++b.post++[p]).length:Nat):Int):=⟨by omega,by omega,by omega⟩
  have l9:aY (a.post++b.post++[p]) ((a.post.length:Nat):Int) (((a.post++b.post).length:Nat):Int)=b.post:=by
   rw[lab]
   exact ll a.post b.post [p]
  have f1:(([b.post]:List (List Pc)).length+([]:List (List Pc)).length)*24<=140737488355328:=by simp
  have f2:([b.post]:List (List Pc)).length+([]:List (List Pc)).length<=9223372036854775807:=by simp
  have w2:IntKind.wrap .i64 ((2:Int)-1)=1:=aJ (by omega) (by omega)
  simp only[show decide ((0:Int)<2)=true from rfl,cond_true,w1,q1,aK,if_pos c0,l9,if_pos f1,if_pos f2,w2,List.append_nil]
  exact hk 1 _ _ (by omega) ⟨.inr (.inl ⟨rfl,rfl⟩),rfl⟩
 ·have w1:IntKind.wrap .i64 (((a.post.length:Nat):Int)-1)=((a.post.length:Nat):Int)-1:=aJ (by omega) (by omega)
  have c0:(0:Int)<=0/\(0:Int)<=((a.post.length:Nat):Int)/\((a.post.length:Nat):Int)<=(((a.post++b.post++[p]).length:Nat):Int):=⟨by omega,by omega,by rw[List.length_append,List.length_append];omega⟩
  have l9:aY (a.post++b.post++[p]) 0 ((a.post.length:Nat):Int)=a.post:=by
   have:=ll ([]:List Pc) a.post (b.post++[p])
   simpa using this
  have f1:(([a.post]:List (List Pc)).length+([b.post]:List (List Pc)).length)*24<=140737488355328:=by simp
  have f2:([a.post]:List (List Pc)).length+([b.post]:List (List Pc)).length<=9223372036854775807:=by simp
  have w2:IntKind.wrap .i64 ((1:Int)-1)=0:=aJ (by omega) (by omega)
  simp only[show decide ((0:Int)<1)=true from rfl,cond_true,w1,q2,aK,if_pos c0,l9,if_pos f1,if_pos f2,w2]
  exact hk 0 _ _ (by omega) ⟨.inr (.inr ⟨rfl,rfl⟩),rfl⟩
 ·simp only[show decide ((0:Int)<0)=false from rfl,cond_false]
theorem rW(a b:Bool):CO N0 ([a],([b],()))=some (([a||b],()),()):=by
 revert a b
 decide +kernel
abbrev EnF:=(List Pc×(List Int×(List Bool×Unit)))->Option ((List Bool×Unit)×Unit)
theorem Dg{q2 q3:EnF}{r:List Pc}{n:Bool}(h:∀ b,q2 (r,([],([b],())))=some (([b&&n],()),()))(b:Bool):uq N0 q2 q3 (r,([],([b],())))=some (([b],()),()):=by
 unfold uq
 dsimp only
 refine au (λm x q=>x=((),([b],((0:Int),())))/\q=some (([b],()),())) ?_ N0 0 _ _ (by unfold N0;omega) ⟨rfl,rfl⟩
 rintro m x q ⟨rfl,rfl⟩ k hk
 have e1:decide ((0:Int)<=((([]:List Int).length:Nat):Int))=true:=rfl
 have e2:(b||(b&&n))=b:=by cases b <;> rfl
 simp only[e1,cond_true,h b,aK,rW,e2]
 refine au (λm x q=>((m=1/\x=((),(true,((0:Int),()))))\/(m=0/\x=((),(true,((1:Int),())))))/\q=some (([b],()),())) ?_ N0 1 _ _ (by unfold N0;omega) ⟨.inl ⟨rfl,rfl⟩,rfl⟩
 rintro m x q ⟨hx,rfl⟩ k2 hk2
 rcases hx with⟨rfl,rfl⟩|⟨rfl,rfl⟩
 ·have g0:([b]:List Bool)[((0:Int)).toNat]?=some b:=rfl
  have e3:decide ((0:Int)<(([b]:List Bool).length:Nat))=true:=rfl
  have n0:(0:Int)<=0:=by omega
  simp only[e3,cond_true,aP,if_pos n0,g0,beq_self_eq_true]
  exact hk2 0 _ _ (by omega) ⟨.inr ⟨rfl,rfl⟩,rfl⟩
 ·rfl
end
noncomputable section
theorem uC{α:Type}(x:α)(l:List α):(x::l)[((0:Int)).toNat]?=some x:=rfl
theorem Mr{α:Type}(x y:α)(l:List α):(x::y::l)[((1:Int)).toNat]?=some y:=rfl
theorem uD{p:Pc}(hk:0<=p.1/\p.1<=6)(ht:bq p.1=0):rK N0 ([]++[p],())=some (([],()),()):=by
 rw[List.nil_append];exact Ao hk ht
theorem z0:(0:Int)<=0:=by omega
theorem z1:(0:Int)<=1:=by omega
theorem Gs:∀ (t:Rx),t.ok->t.len<=10000->∀ (D:Nat) (b:Bool),2*t.len<=D->(dE N0 D).1 (t.post,([],([b],())))=some (([b&&t.null],()),()):=by
 have c0:∀ b:Bool,(0:Int)<=(([b]:List Bool).length:Nat)/\((([b]:List Bool).length:Nat):Int)<=(([b]:List Bool).length:Nat):=λb=>⟨by omega,by omega⟩
 have c1:∀ b:Bool,(((([b]:List Bool).length:Nat):Int)).toNat*1<=140737488355328:=λb=>by rw[Int.toNat_natCast,List.length_singleton];omega
 intro t
 induction t with
 |eps=>
  intro _ _ D b hD
  obtain⟨D,rfl⟩:∃ q,D=q+1:=⟨D-1,by simp only[Rx.len]at hD;omega⟩
  obtain⟨h1,h2⟩:=gK (r0:=[]) (p:=(0,zS)) (by simp)
  have n0:(0:Int)<=((([]:List Pc).length:Nat):Int):=by omega
  show hO N0 (dE N0 D).1 (dE N0 D).2 ([]++[(0,zS)],([],([b],())))=_
  unfold hO
  simp only[h1]
  rw[if_pos (c0 b),if_pos (c1 b),aa (uD (p:=(0,zS)) (by decide) rfl)]
  simp only
  rw[if_pos n0,Int.toNat_natCast,h2]
  simp only
  rw[decide_true,cond_true,Rx.null,Bool.and_true]
 |set S=>
  intro _ _ D b hD
  obtain⟨D,rfl⟩:∃ q,D=q+1:=⟨D-1,by simp only[Rx.len]at hD;omega⟩
  obtain⟨h1,h2⟩:=gK (r0:=[]) (p:=(1,S)) (by simp)
  have n0:(0:Int)<=((([]:List Pc).length:Nat):Int):=by omega
  show hO N0 (dE N0 D).1 (dE N0 D).2 ([]++[(1,S)],([],([b],())))=_
  unfold hO
  simp only[h1]
  rw[if_pos (c0 b),if_pos (c1 b),aa (uD (p:=(1,S)) ⟨z1,(by decide:(1:Int)<=6)⟩ rfl)]
  simp only
  rw[if_pos n0,Int.toNat_natCast,h2]
  simp only
  rw[show decide ((1:Int)=0)=false from rfl,cond_false,decide_true,cond_true,Rx.null,Bool.and_false]
  refine au (λm x q=>x=(([false],()),((0:Int),()))/\q=some (([false],()),())) ?_ N0 0 _ _ (by unfold N0;omega) ⟨rfl,rfl⟩
  rintro m x q ⟨rfl,rfl⟩ k hk
  simp only
  rw[show decide ((0:Int)<((([]:List Int).length:Nat):Int))=false from rfl,cond_false]
 |cat u v ihu ihv=>
  intro hok hl D b hD
  simp only[Rx.len]at hl hD
  obtain⟨D,rfl⟩:∃ q,D=q+1:=⟨D-1,by omega⟩
  obtain⟨h1,h2⟩:=gK (r0:=u.post++v.post) (p:=(2,zS)) (by rw[List.length_append,u.az,v.az];omega)
  have n0:(0:Int)<=(((u.post++v.post).length:Nat):Int):=by omega
  show hO N0 (dE N0 D).1 (dE N0 D).2 (u.post++v.post++[(2,zS)],([],([b],())))=_
  unfold hO
  simp only[h1]
  rw[if_pos (c0 b),if_pos (c1 b),aa (uB (p:=(2,zS)) hok.1 hok.2 (by omega) (by decide) rfl)]
  simp only
  rw[if_pos n0,Int.toNat_natCast,h2]
  simp only
  rw[show decide ((2:Int)=0)=false from rfl,cond_false,show decide ((2:Int)=1)=false from rfl,cond_false,decide_true,cond_true,if_pos z1,Mr]
  simp only
  rw[if_pos z0,uC]
  simp only
  rw[aa (ihu hok.1 (by omega) D b (by omega))]
  simp only
  rw[aa (ihv hok.2 (by omega) D (b&&u.null) (by omega))]
  simp only
  rw[Rx.null,Bool.and_assoc]
 |alt u v ihu ihv=>
  intro hok hl D b hD
  simp only[Rx.len]at hl hD
  obtain⟨D,rfl⟩:∃ q,D=q+1:=⟨D-1,by omega⟩
  obtain⟨h1,h2⟩:=gK (r0:=u.post++v.post) (p:=(3,zS)) (by rw[List.length_append,u.az,v.az];omega)
  have n0:(0:Int)<=(((u.post++v.post).length:Nat):Int):=by omega
  show hO N0 (dE N0 D).1 (dE N0 D).2 (u.post++v.post++[(3,zS)],([],([b],())))=_
  unfold hO
  simp only[h1]
  rw[if_pos (c0 b),if_pos (c1 b),aa (uB (p:=(3,zS)) hok.1 hok.2 (by omega) (by decide) rfl)]
  simp only
  rw[if_pos n0,Int.toNat_natCast,h2]
  simp only
  rw[show decide ((3:Int)=0)=false from rfl,cond_false,show decide ((3:Int)=1)=false from rfl,cond_false,show decide ((3:Int)=2)=false from rfl,cond_false,decide_true,cond_true,if_pos z0,uC]
  simp only
  rw[aa (ihu hok.1 (by omega) D b (by omega))]
  simp only
  rw[if_pos z1,Mr]
  simp only
  rw[aa (ihv hok.2 (by omega) D b (by omega))]
  simp only
  rw[aa (rW _ _),Rx.null]
  have e:((b&&u.null)||(b&&v.null))=(b&&(u.null||v.null)):=by cases b <;> simp
  simp only
  rw[e]
 |rep kd u ihu=>
  intro hok hl D b hD
  simp only[Rx.len]at hl hD
  have hup:=u.aQ
  obtain⟨D,rfl⟩:∃ q,D=q+1+1:=⟨D-2,by omega⟩
  obtain⟨k1,k2,k3⟩:=wN hok
  obtain⟨h1,h2⟩:=gK (r0:=u.post) (p:=(kd,zS)) (by rw[u.az];omega)
  have n0:(0:Int)<=((u.post.length:Nat):Int):=by omega
  show hO N0 (dE N0 (D+1)).1 (dE N0 (D+1)).2 (u.post++[(kd,zS)],([],([b],())))=_
  unfold hO
  simp only[h1]
  rw[if_pos (c0 b),if_pos (c1 b),aa (Df (p:=(kd,zS)) hok.2 (by omega) ⟨k1,k2⟩ k3)]
  simp only
  rw[if_pos n0,Int.toNat_natCast,h2]
  simp only
  have hag:∀ b:Bool,(dE N0 (D+1)).2 (u.post,([],([b],())))=some (([b],()),()):=λb=>
   Dg (q2:=(dE N0 D).1) (q3:=(dE N0 D).2) (n:=u.null) (λb=>ihu hok.2 (by omega) D b (by omega)) b
  have hu:=λb=>ihu hok.2 (by omega) (D+1) b (by omega)
  rcases hok.1 with rfl|rfl|rfl
  ·rw[show decide ((4:Int)=0)=false from rfl,cond_false,show decide ((4:Int)=1)=false from rfl,cond_false,show decide ((4:Int)=2)=false from rfl,cond_false,show decide ((4:Int)=3)=false from rfl,cond_false,show decide ((4:Int)=6)=false from rfl,cond_false,if_pos n0]
   rw[show decide ((4:Int)=4)=true from rfl,cond_true,if_pos z0,uC]
   simp only
   rw[aa (hag b)]
   simp only
   have e:(b&&(Rx.rep 4 u).null)=b:=by simp[Rx.null]
   rw[e]
  ·rw[show decide ((5:Int)=0)=false from rfl,cond_false,show decide ((5:Int)=1)=false from rfl,cond_false,show decide ((5:Int)=2)=false from rfl,cond_false,show decide ((5:Int)=3)=false from rfl,cond_false,show decide ((5:Int)=6)=false from rfl,cond_false,if_pos n0]
   rw[show decide ((5:Int)=4)=false from rfl,cond_false,if_pos z0,uC]
   simp only
   rw[if_pos z0]
   rw[aa (hu b)]
   simp only
   rw[aa (hag _)]
   simp only
   have e:(Rx.rep 5 u).null=u.null:=by simp[Rx.null]
   rw[e]
  ·rw[show decide ((6:Int)=0)=false from rfl,cond_false,show decide ((6:Int)=1)=false from rfl,cond_false,show decide ((6:Int)=2)=false from rfl,cond_false,show decide ((6:Int)=3)=false from rfl,cond_false,show decide ((6:Int)=6)=true from rfl,cond_true,if_pos z0,uC]
   simp only
   rw[aa (hu b)]
   simp only
   rw[aa (rW _ _)]
   simp only
   have e:(b||(b&&u.null))=(b&&(Rx.rep 6 u).null):=by cases b <;> simp[Rx.null]
   rw[e]
theorem Jx{t:Rx}(hok:t.ok)(hl:t.len<=10000):p98 N0 (t.post,([],()))=some ((t.null,()),()):=by
 have h:=Gs t hok hl N0 true (by unfold N0;omega)
 unfold p98
 have w:IntKind.wrap .i64 ((((([]:List Int).length:Nat):Int))+1)=1:=aJ (by simp) (by simp)
 simp only[w]
 rw[if_pos (show(0:Int)<=1/\(1:Int)<=1 by omega),if_pos (show((1:Int)).toNat*1<=140737488355328 by decide),if_pos z0,show(List.replicate ((1:Int)).toNat false)[((0:Int)).toNat]?=some false from rfl]
 simp only
 rw[if_pos z0,show(List.replicate ((1:Int)).toNat false).set ((0:Int)).toNat true=[true]from rfl]
 have h2:Jn N0 (t.post,([],([true],())))=some (([true&&t.null],()),()):=h
 rw[aa h2]
 simp only
 rw[show(((([]:List Int).length:Nat):Int))=0 from rfl,if_pos z0,uC]
 simp only
 rw[Bool.true_and]
end
noncomputable section
theorem nv{S:List Int}{w:Nat}{x:Int}(hx:S[w]?=some x)(h:0<=x/\x<=18446744073709551615):x=((aI (λi=>((S[i / 64]?).getD 0).toNat.testBit (i % 64)) w:Nat):Int):=by
 have:x.toNat=aI (λi=>((S[i / 64]?).getD 0).toNat.testBit (i % 64)) w:=by
  apply j6
  intro i
  by_cases hi:i<64
  ·have e1:(64*w+i) / 64=w:=by omega
   have e2:(64*w+i) % 64=i:=by omega
   rw[e1,e2,hx,decide_eq_true hi,Bool.true_and]
   rfl
  ·rw[decide_eq_false hi,Bool.false_and]
   apply Nat.testBit_lt_two_pow
   have:x.toNat<2 ^ 64:=by omega
   exact Nat.lt_of_lt_of_le this (Nat.pow_le_pow_right (by omega) (by omega))
 omega
theorem x4{S:List Int}(h1:S.length=4)(h2:∀ x∈S,0<=x/\x<=18446744073709551615):∃ l,S=ofB l:=by
 match S,h1 with
 |[a,b,c,d],_=>
  refine⟨λi=>((([a,b,c,d]:List Int)[i / 64]?).getD 0).toNat.testBit (i % 64),?_⟩
  have e0:=nv (S:=[a,b,c,d]) (w:=0) rfl (h2 a (by simp))
  have e1:=nv (S:=[a,b,c,d]) (w:=1) rfl (h2 b (by simp))
  have e2:=nv (S:=[a,b,c,d]) (w:=2) rfl (h2 c (by simp))
  have e3:=nv (S:=[a,b,c,d]) (w:=3) rfl (h2 d (by simp))
  unfold ofB
  rw[<-e0,<-e1,<-e2,<-e3]
theorem uE{S:List Int}(h1:S.length=4)(h2:∀ x∈S,0<=x/\x<=18446744073709551615):na N0 (S,())=some ((decide (S=zS),()),()):=by
 obtain⟨l,rfl⟩:=x4 h1 h2
 rw[xT]
 have:cm l=decide (ofB l=zS):=by
  rw[Bool.eq_iff_iff,decide_eq_true_eq,ez]
 rw[this]
theorem nw:na N0 (zS,())=some ((true,()),()):=by
 rw[uE rfl (by decide)]
 rfl
theorem eS{k:Int}(h:0<=k/\k<=6):ub N0 (k,())=some ((bq k,()),()):=by
 rw[rT]
 have:(if k=0\/k=1 then(0:Int)else if k=4\/k=5\/k=6 then 1 else if k=2\/k=3 then 2 else -1)=bq k:=by
  unfold bq
  by_cases h0:k=0\/k=1
  ·rw[if_pos h0,if_pos h0]
  ·rw[if_neg h0,if_neg h0]
   by_cases h1:k=2\/k=3
   ·rw[if_neg (by omega),if_pos h1,if_pos h1]
   ·rw[if_pos (by omega),if_neg h1]
 rw[this]
abbrev ChS:=Unit×(Int×(Int×Unit))
def chB(r:List Pc):ChS->(ChS->Option ((Int×Unit)×Unit))->Option ((Int×Unit)×Unit):=λv3 v4=>
 (bif decide (v3.2.2.1<((r.length:Nat):Int))then(if 0<=v3.2.2.1 then(match r[(v3.2.2.1).toNat]? with|some v5=>(ae (ub N0 (v5.1,())) λv6=>(aj (λ(v7:Unit×(Bool×Unit))=>(bif v7.2.1 then some ((5,()),())else v4 ((),(IntKind.wrap .i64 (v3.2.1+IntKind.wrap .i64 (1-v6.1.1)),(IntKind.wrap .i64 (v3.2.2.1+1),()))))) λv8=>(bif decide (v6.1.1<0)then v8 ((),(true,()))else(bif decide (v3.2.1<v6.1.1)then v8 ((),(true,()))else(ae (na N0 (v5.2,())) λv9=>v8 ((),((decide (v5.1=1) == v9.1.1),())))))))|none=>none)else none)else(bif !decide (v3.2.1=1)then some ((5,()),())else some ((0,()),())))
theorem lm{r:List Pc}(hr:r.length<=100000)(F d i:Nat)(p:Pc)(hp:r[i]?=some p)(hk:0<=p.1/\p.1<=6)(hd:bq p.1<=(d:Int))(hd2:d<=1000000)(hs:na N0 (p.2,())=some ((!decide (p.1=1),()),())):
 ap (chB r) (F+1) ((),((d:Int),((i:Int),())))=ap (chB r) F ((),((d:Int)+(1-bq p.1),(((i+1:Nat):Int),()))):=by
 have hi:i<r.length:=by
  rcases Nat.lt_or_ge i r.length with h|h
  ·exact h
  ·rw[List.getElem?_eq_none h]at hp;cases hp
 have ht:0<=bq p.1/\bq p.1<=2:=by
  unfold bq
  split
  ·omega
  ·split <;> omega
 rw[bL]
 unfold chB
 simp only
 have n0:(0:Int)<=(i:Int):=by omega
 have w1:IntKind.wrap .i64 (1-bq p.1)=1-bq p.1:=aJ (by omega) (by omega)
 have w2:IntKind.wrap .i64 ((d:Int)+(1-bq p.1))=(d:Int)+(1-bq p.1):=aJ (by omega) (by omega)
 rw[decide_eq_true (show(i:Int)<((r.length:Nat):Int) by omega),cond_true,if_pos n0,Int.toNat_natCast,hp]
 simp only
 rw[aa (eS hk)]
 simp only
 refine aq ((),(false,())) (λK=>?_) ?_
 ·rw[decide_eq_false (show ¬bq p.1<0 by omega),cond_false,decide_eq_false (show ¬(d:Int)<bq p.1 by omega),cond_false,aa hs]
  cases decide (p.1=1) <;> rfl
 ·simp only
  rw[cond_false,w1,w2,aO (by omega)]
theorem Gt{r:List Pc}(hr:r.length<=100000):∀ (t:Rx) (F d:Nat) (l rest:List Pc),t.ok->r=l++t.post++rest->d+t.len<=1000000->
 ap (chB r) (F+t.len) ((),((d:Int),((l.length:Int),())))=ap (chB r) F ((),(((d+1:Nat):Int),(((l.length+t.len:Nat):Int),()))):=by
 intro t
 induction t with
 |eps=>
  intro F d l rest _ hr2 hd
  simp only[Rx.len]
  have hp:r[l.length]?=some (0,zS):=by rw[hr2];simp[Rx.post]
  rw[lm hr F d l.length _ hp (by decide) (by show(0:Int)<=_;omega) (by omega) nw]
  rfl
 |set S=>
  intro F d l rest hok hr2 hd
  simp only[Rx.len]
  have hp:r[l.length]?=some (1,S):=by rw[hr2];simp[Rx.post]
  have hs:=uE hok.1 hok.2.2
  rw[decide_eq_false hok.2.1]at hs
  rw[lm hr F d l.length _ hp ⟨z1,(by decide:(1:Int)<=6)⟩ (by show(0:Int)<=_;omega) (by omega) hs]
  rfl
 |cat a b iha ihb=>
  intro F d l rest hok hr2 hd
  simp only[Rx.len]at hd |-
  have pa:=a.aQ
  have pb:=b.aQ
  have hp:r[l.length+a.len+b.len]?=some (2,zS):=by
   rw[hr2]
   simp[Rx.post,<-a.az,<-b.az,Nat.add_assoc]
  rw[show F+(a.len+b.len+1)=(F+1+b.len)+a.len by omega,iha (F+1+b.len) d l (b.post++[(2,zS)]++rest) hok.1 (by rw[hr2];simp[Rx.post]) (by omega)]
  have hb:=ihb (F+1) (d+1) (l++a.post) ([(2,zS)]++rest) hok.2 (by rw[hr2];simp[Rx.post]) (by omega)
  rw[List.length_append,a.az]at hb
  rw[hb,lm hr F (d+1+1) _ _ hp (by decide) (by show(2:Int)<=_;omega) (by omega) nw]
  have e1:((d+1+1:Nat):Int)+(1-bq ((2,zS):Pc).1)=((d+1:Nat):Int):=by
   show _+(1-2:Int)=_
   omega
  have e2:l.length+a.len+b.len+1=l.length+(a.len+b.len+1):=by omega
  rw[e1,e2]
 |alt a b iha ihb=>
  intro F d l rest hok hr2 hd
  simp only[Rx.len]at hd |-
  have pa:=a.aQ
  have pb:=b.aQ
  have hp:r[l.length+a.len+b.len]?=some (3,zS):=by
   rw[hr2]
   simp[Rx.post,<-a.az,<-b.az,Nat.add_assoc]
  rw[show F+(a.len+b.len+1)=(F+1+b.len)+a.len by omega,iha (F+1+b.len) d l (b.post++[(3,zS)]++rest) hok.1 (by rw[hr2];simp[Rx.post]) (by omega)]
  have hb:=ihb (F+1) (d+1) (l++a.post) ([(3,zS)]++rest) hok.2 (by rw[hr2];simp[Rx.post]) (by omega)
  rw[List.length_append,a.az]at hb
  rw[hb,lm hr F (d+1+1) _ _ hp (by decide) (by show(2:Int)<=_;omega) (by omega) nw]
  have e1:((d+1+1:Nat):Int)+(1-bq ((3,zS):Pc).1)=((d+1:Nat):Int):=by
   show _+(1-2:Int)=_
   omega
  have e2:l.length+a.len+b.len+1=l.length+(a.len+b.len+1):=by omega
  rw[e1,e2]
 |rep k a iha=>
  intro F d l rest hok hr2 hd
  simp only[Rx.len]at hd |-
  obtain⟨k1,k2,k3⟩:=wN hok
  have hp:r[l.length+a.len]?=some (k,zS):=by
   rw[hr2]
   simp[Rx.post,<-a.az]
  have hk1:decide (k=1)=false:=by
   rcases hok.1 with rfl|rfl|rfl <;> rfl
  have hs:na N0 (((k,zS):Pc).2,())=some ((!decide (((k,zS):Pc).1=1),()),()):=by
   show na N0 (zS,())=some ((!decide (k=1),()),())
   rw[nw,hk1];rfl
  rw[show F+(a.len+1)=(F+1)+a.len by omega,iha (F+1) d l ([(k,zS)]++rest) hok.2 (by rw[hr2];simp[Rx.post]) (by omega),
   lm hr F (d+1) _ _ hp ⟨k1,k2⟩ (by show bq k<=_;rw[k3];omega) (by omega) hs]
  have e1:((d+1:Nat):Int)+(1-bq ((k,zS):Pc).1)=((d+1:Nat):Int):=by
   show _+(1-bq k)=_
   rw[k3];omega
  have e2:l.length+a.len+1=l.length+(a.len+1):=by omega
  rw[e1,e2]
theorem Gu{t:Rx}(hok:t.ok)(hl:t.len<=400):FG N0 (t.post,())=some ((0,()),()):=by
 have tl:=t.az
 have h:=Gt (r:=t.post) (by omega) t (N0-t.len) 0 [] [] hok (by simp) (by omega)
 rw[show N0-t.len+t.len=N0 by unfold N0;omega]at h
 unfold FG
 simp only
 rw[decide_eq_false (show ¬(400:Int)<((t.post.length:Nat):Int) by omega),cond_false]
 refine Eq.trans h ?_
 obtain⟨q,hq⟩:∃ q,N0-t.len=q+1:=⟨N0-t.len-1,by unfold N0;omega⟩
 rw[hq,bL]
 unfold chB
 simp only
 have e:((([]:List Pc).length+t.len:Nat):Int)=((t.post.length:Nat):Int):=by rw[tl];simp
 rw[e,decide_eq_false (show ¬((t.post.length:Nat):Int)<((t.post.length:Nat):Int) by omega),cond_false]
 rfl
end
noncomputable section
abbrev EdI:=Int×(Int×(List Int×Bool))
abbrev edI(e:Ed):EdI:=((e.1:Int),((e.2.1:Int),(e.2.2.1,e.2.2.2)))
abbrev NfI:=Int×(List EdI×(Int×Int))
def nf(n:Nat)(E:List Ed):NfI:=((n:Int),(E.map edI,(0,0)))
theorem lp{n:Nat}(hn:n<=100000)(E:List Ed):FH N0 (nf n E,())=some ((((n:Int),((n+1:Nat):Int)),()),(nf (n+2) E,())):=by
 have h:∀ m:Nat,m<=100001->CC N0 (nf m E,())=some (((m:Int),()),(nf (m+1) E,())):=by
  intro m hm
  have w:IntKind.wrap .i64 (((m+1:Nat):Int)-1)=(m:Int):=by
   have:((m+1:Nat):Int)-1=(m:Int):=by omega
   rw[this];exact aM (by omega)
  unfold CC nf
  simp only[aO (show m+1<9223372036854775808 by omega),w]
 unfold FH
 simp only[h n (by omega),h (n+1) (by omega),aK]
theorem db{E:List Ed}(hE:E.length<=100000)(n f l:Nat):l5 N0 (nf n E,((f:Int),((l:Int),())))=some ((),(nf n (E++[fE f l]),())):=by
 unfold l5 nf
 have c1:((E.map edI).length+([((f:Int),((l:Int),([0,0,0,0],true)))]:List EdI).length)*56<=140737488355328:=by simp;omega
 have c2:(E.map edI).length+([((f:Int),((l:Int),([0,0,0,0],true)))]:List EdI).length<=9223372036854775807:=by simp;omega
 simp only
 rw[if_pos c1,if_pos c2,List.map_append]
 rfl
theorem oW{st0 ch:List (Int×Int)}(hl:(st0++ch).length<=100000){k:Int}(hk:k=((ch.length:Nat):Int))(X:Int×Int):
 IntKind.wrap .i64 ((((st0++ch).length:Nat):Int)-k)=((st0.length:Nat):Int)/\((0:Int)<=0/\(0:Int)<=((st0.length:Nat):Int)/\((st0.length:Nat):Int)<=(((st0++ch).length:Nat):Int))/\aY (st0++ch) 0 ((st0.length:Nat):Int)=st0/\(st0.length+([X]:List (Int×Int)).length)*16<=140737488355328/\st0.length+([X]:List (Int×Int)).length<=9223372036854775807:=by
 rw[List.length_append]at hl
 subst hk
 refine⟨?_,⟨by omega,by omega,by rw[List.length_append];omega⟩,?_,by rw[List.length_singleton];omega,by rw[List.length_singleton];omega⟩
 ·have:((((st0++ch).length:Nat):Int)-((ch.length:Nat):Int))=((st0.length:Nat):Int):=by rw[List.length_append];omega
  rw[this];exact aM (by omega)
 ·have:=ll ([]:List (Int×Int)) st0 ch
  rw[List.nil_append,List.length_nil,Nat.zero_add]at this
  exact this
theorem Dh{n:Nat}(hn:n<=100000){E:List Ed}(hE:E.length<=10000)(S:List Int){st:List (Int×Int)}(hst:st.length<=100000):
 kW N0 (nf n E,((1,S),(st,())))=some ((st++[((n:Int),((n+1:Nat):Int))],()),(nf (n+2) (E++[(n,n+1,S,false)]),())):=by
 unfold kW
 simp only[lp hn,aK]
 refine aq ((nf (n+2) (E++[(n,n+1,S,false)]),(st,())),()) (λK=>?_) ?_
 ·simp only[aP,show decide ((1:Int)=0)=false from rfl,show decide ((1:Int)=1)=true from rfl,decide_true,cond_false,cond_true]
  unfold nf
  have c1:((E.map edI).length+([((n:Int),(((n+1:Nat):Int),(S,false)))]:List EdI).length)*56<=140737488355328:=by simp;omega
  have c2:(E.map edI).length+([((n:Int),(((n+1:Nat):Int),(S,false)))]:List EdI).length<=9223372036854775807:=by simp;omega
  simp only
  rw[if_pos c1,if_pos c2,List.map_append]
  rfl
 ·obtain⟨h1,h2,h3,h4,h5⟩:=oW (st0:=st) (ch:=[]) (by rw[List.append_nil];exact hst) (k:=0) rfl ((n:Int),((n+1:Nat):Int))
  rw[List.append_nil]at h1 h2 h3
  simp only
  rw[aa (eS (k:=1) (by decide))]
  have e:bq 1=0:=rfl
  simp only[e,h1]
  rw[if_pos h2,h3,if_pos h4,if_pos h5]
theorem Di{n:Nat}(hn:n<=100000){E:List Ed}(hE:E.length<=10000){st:List (Int×Int)}(hst:st.length<=100000):
 kW N0 (nf n E,((0,zS),(st,())))=some ((st++[((n:Int),((n+1:Nat):Int))],()),(nf (n+2) (E++[fE n (n+1)]),())):=by
 unfold kW
 simp only[lp hn,aK]
 refine aq ((nf (n+2) (E++[fE n (n+1)]),(st,())),()) (λK=>?_) ?_
 ·rw[decide_true,cond_true,aa (db (by omega) _ _ _)]
 ·obtain⟨h1,h2,h3,h4,h5⟩:=oW (st0:=st) (ch:=[]) (by rw[List.append_nil];exact hst) (k:=0) rfl ((n:Int),((n+1:Nat):Int))
  rw[List.append_nil]at h1 h2 h3
  simp only
  rw[aa (eS (k:=0) (by decide))]
  have e:bq 0=0:=rfl
  simp only[e,h1]
  rw[if_pos h2,h3,if_pos h4,if_pos h5]
theorem uF{st0:List (Int×Int)}{a b:Int×Int}(h:st0.length<=100000):IntKind.wrap .i64 ((((st0++[a,b]).length:Nat):Int)-2)=((st0.length:Nat):Int)/\IntKind.wrap .i64 ((((st0++[a,b]).length:Nat):Int)-1)=((st0.length+1:Nat):Int)/\(st0++[a,b])[st0.length]?=some a/\(st0++[a,b])[st0.length+1]?=some b:=by
 have hl:(st0++[a,b]).length=st0.length+2:=by rw[List.length_append];rfl
 refine⟨?_,?_,by simp,by simp⟩
 ·have:((((st0++[a,b]).length:Nat):Int)-2)=((st0.length:Nat):Int):=by omega
  rw[this];exact aM (by omega)
 ·have:((((st0++[a,b]).length:Nat):Int)-1)=((st0.length+1:Nat):Int):=by omega
  rw[this];exact aM (by omega)
theorem Dj{n:Nat}(hn:n<=100000){E:List Ed}(hE:E.length<=10000){st0:List (Int×Int)}(hst:st0.length<=90000)(f1 l1 f2 l2:Nat):
 kW N0 (nf n E,((2,zS),(st0++[((f1:Int),(l1:Int)),((f2:Int),(l2:Int))],())))=some ((st0++[((n:Int),((n+1:Nat):Int))],()),(nf (n+2) (E++[fE n f1,fE l1 f2,fE l2 (n+1)]),())):=by
 obtain⟨g1,g2,g3,g4⟩:=uF (st0:=st0) (a:=((f1:Int),(l1:Int))) (b:=((f2:Int),(l2:Int))) (by omega)
 unfold kW
 simp only[lp hn,aK]
 refine aq ((nf (n+2) (E++[fE n f1,fE l1 f2,fE l2 (n+1)]),(st0++[((f1:Int),(l1:Int)),((f2:Int),(l2:Int))],())),()) (λK=>?_) ?_
 ·have n0:(0:Int)<=((st0.length:Nat):Int):=by omega
  have n1:(0:Int)<=((st0.length+1:Nat):Int):=by omega
  simp only[aP,show decide ((2:Int)=0)=false from rfl,show decide ((2:Int)=1)=false from rfl,decide_true,cond_false,cond_true,g1,g2]
  rw[if_pos n0,Int.toNat_natCast,g3]
  simp only
  rw[if_pos n1,Int.toNat_natCast,g4]
  simp only
  rw[aa (db (by omega) _ _ _)]
  simp only
  rw[aa (db (by simp;omega) _ _ _)]
  simp only
  rw[aa (db (by simp;omega) _ _ _)]
  simp only[List.append_assoc,List.cons_append,List.nil_append]
 ·obtain⟨h1,h2,h3,h4,h5⟩:=oW (st0:=st0) (ch:=[((f1:Int),(l1:Int)),((f2:Int),(l2:Int))]) (by rw[List.length_append];show st0.length+2<=_;omega) (k:=2) rfl ((n:Int),((n+1:Nat):Int))
  simp only
  rw[aa (eS (k:=2) (by decide))]
  have e:bq 2=2:=rfl
  simp only[e,h1]
  rw[if_pos h2,h3,if_pos h4,if_pos h5]
theorem Dk{n:Nat}(hn:n<=100000){E:List Ed}(hE:E.length<=10000){st0:List (Int×Int)}(hst:st0.length<=90000)(f1 l1 f2 l2:Nat):
 kW N0 (nf n E,((3,zS),(st0++[((f1:Int),(l1:Int)),((f2:Int),(l2:Int))],())))=some ((st0++[((n:Int),((n+1:Nat):Int))],()),(nf (n+2) (E++[fE n f1,fE l1 (n+1),fE n f2,fE l2 (n+1)]),())):=by
 obtain⟨g1,g2,g3,g4⟩:=uF (st0:=st0) (a:=((f1:Int),(l1:Int))) (b:=((f2:Int),(l2:Int))) (by omega)
 have hl:(st0++[((f1:Int),(l1:Int)),((f2:Int),(l2:Int))]).length=st0.length+2:=by rw[List.length_append];rfl
 unfold kW
 simp only[lp hn,aK]
 refine aq ((nf (n+2) (E++[fE n f1,fE l1 (n+1),fE n f2,fE l2 (n+1)]),(st0++[((f1:Int),(l1:Int)),((f2:Int),(l2:Int))],())),()) (λK=>?_) ?_
 ·simp only[aP,show decide ((3:Int)=0)=false from rfl,show decide ((3:Int)=1)=false from rfl,show decide ((3:Int)=2)=false from rfl,decide_true,cond_false,cond_true,g1]
  rw[if_pos ⟨by omega,by omega,by omega⟩]
  refine au (λm x q=>((m=2/\x=((nf (n+2) E,(st0++[((f1:Int),(l1:Int)),((f2:Int),(l2:Int))],())),((0:Int),())))\/(m=1/\x=((nf (n+2) (E++[fE n f1,fE l1 (n+1)]),(st0++[((f1:Int),(l1:Int)),((f2:Int),(l2:Int))],())),((1:Int),())))\/(m=0/\x=((nf (n+2) (E++[fE n f1,fE l1 (n+1),fE n f2,fE l2 (n+1)]),(st0++[((f1:Int),(l1:Int)),((f2:Int),(l2:Int))],())),((2:Int),()))))/\q=K ((nf (n+2) (E++[fE n f1,fE l1 (n+1),fE n f2,fE l2 (n+1)]),(st0++[((f1:Int),(l1:Int)),((f2:Int),(l2:Int))],())),())) ?_ N0 2 _ _ (by unfold N0;omega) ⟨.inl ⟨rfl,rfl⟩,rfl⟩
  have evL:mI ((st0.length:Nat):Int) (((st0++[((f1:Int),(l1:Int)),((f2:Int),(l2:Int))]).length:Nat):Int)=2:=by unfold mI;omega
  rintro m x q ⟨hx,rfl⟩ k hk
  rcases hx with⟨rfl,rfl⟩|⟨rfl,rfl⟩|⟨rfl,rfl⟩
  ·have e1:sX 0 ((st0.length:Nat):Int) (((st0++[((f1:Int),(l1:Int)),((f2:Int),(l2:Int))]).length:Nat):Int)=true:=by unfold sX;simp;omega
   have e2:jb ((st0.length:Nat):Int) 0=((st0.length:Nat):Int):=by unfold jb;simp
   have n0:(0:Int)<=((st0.length:Nat):Int):=by omega
   have w1:IntKind.wrap .i64 ((0:Int)+1)=1:=aJ (by omega) (by omega)
   simp only[evL,e1,e2,show decide ((0:Int)<2)=true from rfl,cond_true]
   rw[if_pos n0,Int.toNat_natCast,g3]
   simp only
   rw[aa (db (by omega) _ _ _)]
   simp only
   rw[aa (db (by simp;omega) _ _ _),w1,List.append_assoc]
   exact hk 1 _ _ (by omega) ⟨.inr (.inl ⟨rfl,rfl⟩),rfl⟩
  ·have e1:sX 1 ((st0.length:Nat):Int) (((st0++[((f1:Int),(l1:Int)),((f2:Int),(l2:Int))]).length:Nat):Int)=true:=by unfold sX;simp;omega
   have e2:jb ((st0.length:Nat):Int) 1=((st0.length+1:Nat):Int):=by unfold jb;simp
   have n0:(0:Int)<=((st0.length+1:Nat):Int):=by omega
   have w1:IntKind.wrap .i64 ((1:Int)+1)=2:=aJ (by omega) (by omega)
   simp only[evL,e1,e2,show decide ((1:Int)<2)=true from rfl,cond_true]
   rw[if_pos n0,Int.toNat_natCast,g4]
   simp only
   rw[aa (db (by simp;omega) _ _ _)]
   simp only
   rw[aa (db (by simp;omega) _ _ _),w1]
   simp only[List.append_assoc,List.cons_append,List.nil_append]
   exact hk 0 _ _ (by omega) ⟨.inr (.inr ⟨rfl,rfl⟩),rfl⟩
  ·simp only[evL,show decide ((2:Int)<2)=false from rfl,cond_false]
 ·obtain⟨h1,h2,h3,h4,h5⟩:=oW (st0:=st0) (ch:=[((f1:Int),(l1:Int)),((f2:Int),(l2:Int))]) (by rw[List.length_append];show st0.length+2<=_;omega) (k:=2) rfl ((n:Int),((n+1:Nat):Int))
  simp only
  rw[aa (eS (k:=3) (by decide))]
  have e:bq 3=2:=rfl
  simp only[e,h1]
  rw[if_pos h2,h3,if_pos h4,if_pos h5]
theorem Dl{n:Nat}(hn:n<=100000){E:List Ed}(hE:E.length<=10000){st0:List (Int×Int)}(hst:st0.length<=90000){k:Int}(hk:k=4\/k=5\/k=6)(f1 l1:Nat):
 kW N0 (nf n E,((k,zS),(st0++[((f1:Int),(l1:Int))],())))=some ((st0++[((n:Int),((n+1:Nat):Int))],()),(nf (n+2) (E++([fE n f1,fE l1 (n+1)]++(if k=6 then []else [fE l1 f1])++(if k=5 then []else [fE n (n+1)]))),())):=by
 have hl:(st0++[((f1:Int),(l1:Int))]).length=st0.length+1:=by rw[List.length_append];rfl
 have g1:IntKind.wrap .i64 ((((st0++[((f1:Int),(l1:Int))]).length:Nat):Int)-1)=((st0.length:Nat):Int):=by
  have:((((st0++[((f1:Int),(l1:Int))]).length:Nat):Int)-1)=((st0.length:Nat):Int):=by omega
  rw[this];exact aM (by omega)
 have g2:(st0++[((f1:Int),(l1:Int))])[st0.length]?=some ((f1:Int),(l1:Int)):=by simp
 have n0:(0:Int)<=((st0.length:Nat):Int):=by omega
 unfold kW
 simp only[lp hn,aK]
 refine aq ((nf (n+2) (E++([fE n f1,fE l1 (n+1)]++(if k=6 then []else [fE l1 f1])++(if k=5 then []else [fE n (n+1)]))),(st0++[((f1:Int),(l1:Int))],())),()) (λK=>?_) ?_
 ·have q0:decide (k=0)=false:=decide_eq_false (by omega)
  have q1:decide (k=1)=false:=decide_eq_false (by omega)
  have q2:decide (k=2)=false:=decide_eq_false (by omega)
  have q3:decide (k=3)=false:=decide_eq_false (by omega)
  simp only[aP,q0,q1,q2,q3,cond_false,g1]
  rw[if_pos n0,Int.toNat_natCast,g2]
  simp only
  rw[aa (db (by omega) _ _ _)]
  simp only
  rw[aa (db (by simp;omega) _ _ _)]
  simp only
  rcases hk with rfl|rfl|rfl
  ·simp only[show decide ((4:Int)=6)=false from rfl,show decide ((4:Int)=5)=false from rfl,Bool.not_false,cond_true]
   rw[aa (db (by simp;omega) _ _ _)]
   simp only
   rw[aa (db (by simp;omega) _ _ _)]
   simp
  ·simp only[show decide ((5:Int)=6)=false from rfl,decide_true,Bool.not_false,Bool.not_true,cond_true,cond_false]
   rw[aa (db (by simp;omega) _ _ _)]
   simp
  ·simp only[show decide ((6:Int)=5)=false from rfl,decide_true,Bool.not_false,Bool.not_true,cond_true,cond_false]
   rw[aa (db (by simp;omega) _ _ _)]
   simp
 ·obtain⟨h1,h2,h3,h4,h5⟩:=oW (st0:=st0) (ch:=[((f1:Int),(l1:Int))]) (by omega) (k:=1) rfl ((n:Int),((n+1:Nat):Int))
  simp only
  have e:bq k=1:=by rcases hk with rfl|rfl|rfl <;> rfl
  rw[aa (eS (k:=k) (by omega))]
  simp only[e,h1]
  rw[if_pos h2,h3,if_pos h4,if_pos h5]
end
noncomputable section
theorem eT:∀ (t:Rx) (n:Nat),(t.ag n).length<=4*t.len:=by
 intro t
 induction t with
 |eps=>intro n;simp[Rx.ag,Rx.len]
 |set S=>intro n;simp[Rx.ag,Rx.len]
 |cat a b iha ihb=>
  intro n
  have h1:=iha n
  have h2:=ihb (n+2*a.len)
  simp only[Rx.ag,Rx.len,List.length_append,List.length_cons,List.length_nil]
  omega
 |alt a b iha ihb=>
  intro n
  have h1:=iha n
  have h2:=ihb (n+2*a.len)
  simp only[Rx.ag,Rx.len,List.length_append,List.length_cons,List.length_nil]
  omega
 |rep k a ih=>
  intro n
  have h1:=ih n
  simp only[Rx.ag,Rx.len,List.length_append,List.length_cons,List.length_nil]
  split <;> split <;> simp <;> omega
abbrev OfS:=(NfI×(NfI×Unit))×(List (Int×Int)×(Int×Unit))
abbrev OfR:=(NfI×(Int×Unit))×Unit
def stB(r:List Pc):OfS->(OfS->Option OfR)->Option OfR:=λv4 v5=>
 (bif decide (v4.2.2.1<((r.length:Nat):Int))then(if 0<=v4.2.2.1 then(match r[(v4.2.2.1).toNat]? with|some v6=>(ae (kW N0 (v4.1.2.1,(v6,(v4.2.1,())))) λv7=>v5 ((v4.1.1,(v7.2.1,())),(v7.1.1,(IntKind.wrap .i64 (v4.2.2.1+1),()))))|none=>none)else none)
 else(if(0:Int)<=0 then(match v4.2.1[((0:Int)).toNat]? with|some v8=>(if(0:Int)<=0 then(match v4.2.1[((0:Int)).toNat]? with|some v9=>some (((v4.1.2.1.1,(v4.1.2.1.2.1,(v8.1,v9.2))),(0,())),())|none=>none)else none)|none=>none)else none))
def pr(f l:Nat):Int×Int:=((f:Int),(l:Int))
theorem lq{r:List Pc}(hr:r.length<=100000)(F i:Nat)(p:Pc)(hp:r[i]?=some p){Z M M':NfI}{st st':List (Int×Int)}(h:kW N0 (M,(p,(st,())))=some ((st',()),(M',()))):
 ap (stB r) (F+1) ((Z,(M,())),(st,((i:Int),())))=ap (stB r) F ((Z,(M',())),(st',(((i+1:Nat):Int),()))):=by
 have hi:i<r.length:=by
  rcases Nat.lt_or_ge i r.length with h|h
  ·exact h
  ·rw[List.getElem?_eq_none h]at hp;cases hp
 rw[bL]
 unfold stB
 simp only
 have n0:(0:Int)<=(i:Int):=by omega
 rw[decide_eq_true (show(i:Int)<((r.length:Nat):Int) by omega),cond_true,if_pos n0,Int.toNat_natCast,hp]
 simp only
 rw[aa h]
 simp only[aO (show i+1<9223372036854775808 by omega)]
theorem Gv{r:List Pc}(hr:r.length<=100000){Z:NfI}:∀ (t:Rx) (F n:Nat) (E:List Ed) (st:List (Int×Int)) (l rest:List Pc),t.ok->r=l++t.post++rest->n+2*t.len<=100000->E.length+4*t.len<=10000->st.length+t.len<=90000->
 ap (stB r) (F+t.len) ((Z,(nf n E,())),(st,((l.length:Int),())))=ap (stB r) F ((Z,(nf (n+2*t.len) (E++t.ag n),())),(st++[pr (t.fst n) (t.lst n)],(((l.length+t.len:Nat):Int),()))):=by
 intro t
 induction t with
 |eps=>
  intro F n E st l rest _ hr2 hn hE hst
  simp only[Rx.len]at hn hE hst |-
  have hp:r[l.length]?=some (0,zS):=by rw[hr2];simp[Rx.post]
  rw[lq hr F l.length _ hp (Di (by omega) (by omega) (by omega))]
  have e1:Rx.fst .eps n=n:=by simp only[Rx.fst,Rx.len];omega
  have e2:Rx.lst .eps n=n+1:=by simp only[Rx.lst,Rx.len];omega
  rw[e1,e2]
  rfl
 |set S=>
  intro F n E st l rest _ hr2 hn hE hst
  simp only[Rx.len]at hn hE hst |-
  have hp:r[l.length]?=some (1,S):=by rw[hr2];simp[Rx.post]
  rw[lq hr F l.length _ hp (Dh (by omega) (by omega) S (by omega))]
  have e1:Rx.fst (.set S) n=n:=by simp only[Rx.fst,Rx.len];omega
  have e2:Rx.lst (.set S) n=n+1:=by simp only[Rx.lst,Rx.len];omega
  rw[e1,e2]
  rfl
 |cat a b iha ihb=>
  intro F n E st l rest hok hr2 hn hE hst
  simp only[Rx.len]at hn hE hst |-
  have pa:=a.aQ
  have pb:=b.aQ
  have la:=eT a n
  have lb:=eT b (n+2*a.len)
  have hp:r[l.length+a.len+b.len]?=some (2,zS):=by
   rw[hr2]
   simp[Rx.post,<-a.az,<-b.az,Nat.add_assoc]
  rw[show F+(a.len+b.len+1)=(F+1+b.len)+a.len by omega,iha (F+1+b.len) n E st l (b.post++[(2,zS)]++rest) hok.1 (by rw[hr2];simp[Rx.post]) (by omega) (by omega) (by omega)]
  have hb:=ihb (F+1) (n+2*a.len) (E++a.ag n) (st++[pr (a.fst n) (a.lst n)]) (l++a.post) ([(2,zS)]++rest) hok.2 (by rw[hr2];simp[Rx.post]) (by omega) (by rw[List.length_append];omega) (by rw[List.length_append,List.length_singleton];omega)
  rw[List.length_append,a.az]at hb
  have e0:st++[pr (a.fst n) (a.lst n)]++[pr (b.fst (n+2*a.len)) (b.lst (n+2*a.len))]=st++[(((a.fst n:Nat):Int),((a.lst n:Nat):Int)),(((b.fst (n+2*a.len):Nat):Int),((b.lst (n+2*a.len):Nat):Int))]:=by
   rw[List.append_assoc];rfl
  rw[e0]at hb
  rw[hb,lq hr F _ _ hp (Dj (by omega) (by rw[List.length_append,List.length_append];omega) (by omega) _ _ _ _)]
  have e1:(Rx.cat a b).fst n=n+2*a.len+2*b.len:=by simp only[Rx.fst,Rx.len];omega
  have e2:(Rx.cat a b).lst n=n+2*a.len+2*b.len+1:=by simp only[Rx.lst,Rx.len];omega
  have e3:E++a.ag n++b.ag (n+2*a.len)++[fE (n+2*a.len+2*b.len) (a.fst n),fE (a.lst n) (b.fst (n+2*a.len)),fE (b.lst (n+2*a.len)) (n+2*a.len+2*b.len+1)]=E++(Rx.cat a b).ag n:=by
   simp only[Rx.ag,List.append_assoc]
   rw[show n+2*(a.len+b.len)=n+2*a.len+2*b.len by omega]
  rw[e1,e2,e3,show n+2*a.len+2*b.len+2=n+2*(a.len+b.len+1) by omega,show l.length+a.len+b.len+1=l.length+(a.len+b.len+1) by omega]
  rfl
 |alt a b iha ihb=>
  intro F n E st l rest hok hr2 hn hE hst
  simp only[Rx.len]at hn hE hst |-
  have pa:=a.aQ
  have pb:=b.aQ
  have la:=eT a n
  have lb:=eT b (n+2*a.len)
  have hp:r[l.length+a.len+b.len]?=some (3,zS):=by
   rw[hr2]
   simp[Rx.post,<-a.az,<-b.az,Nat.add_assoc]
  rw[show F+(a.len+b.len+1)=(F+1+b.len)+a.len by omega,iha (F+1+b.len) n E st l (b.post++[(3,zS)]++rest) hok.1 (by rw[hr2];simp[Rx.post]) (by omega) (by omega) (by omega)]
  have hb:=ihb (F+1) (n+2*a.len) (E++a.ag n) (st++[pr (a.fst n) (a.lst n)]) (l++a.post) ([(3,zS)]++rest) hok.2 (by rw[hr2];simp[Rx.post]) (by omega) (by rw[List.length_append];omega) (by rw[List.length_append,List.length_singleton];omega)
  rw[List.length_append,a.az]at hb
  have e0:st++[pr (a.fst n) (a.lst n)]++[pr (b.fst (n+2*a.len)) (b.lst (n+2*a.len))]=st++[(((a.fst n:Nat):Int),((a.lst n:Nat):Int)),(((b.fst (n+2*a.len):Nat):Int),((b.lst (n+2*a.len):Nat):Int))]:=by
   rw[List.append_assoc];rfl
  rw[e0]at hb
  rw[hb,lq hr F _ _ hp (Dk (by omega) (by rw[List.length_append,List.length_append];omega) (by omega) _ _ _ _)]
  have e1:(Rx.alt a b).fst n=n+2*a.len+2*b.len:=by simp only[Rx.fst,Rx.len];omega
  have e2:(Rx.alt a b).lst n=n+2*a.len+2*b.len+1:=by simp only[Rx.lst,Rx.len];omega
  have e3:E++a.ag n++b.ag (n+2*a.len)++[fE (n+2*a.len+2*b.len) (a.fst n),fE (a.lst n) (n+2*a.len+2*b.len+1),fE (n+2*a.len+2*b.len) (b.fst (n+2*a.len)),fE (b.lst (n+2*a.len)) (n+2*a.len+2*b.len+1)]=E++(Rx.alt a b).ag n:=by
   simp only[Rx.ag,List.append_assoc]
   rw[show n+2*(a.len+b.len)=n+2*a.len+2*b.len by omega]
  rw[e1,e2,e3,show n+2*a.len+2*b.len+2=n+2*(a.len+b.len+1) by omega,show l.length+a.len+b.len+1=l.length+(a.len+b.len+1) by omega]
  rfl
 |rep k a iha=>
  intro F n E st l rest hok hr2 hn hE hst
  simp only[Rx.len]at hn hE hst |-
  have la:=eT a n
  have hp:r[l.length+a.len]?=some (k,zS):=by
   rw[hr2]
   simp[Rx.post,<-a.az]
  rw[show F+(a.len+1)=(F+1)+a.len by omega,iha (F+1) n E st l ([(k,zS)]++rest) hok.2 (by rw[hr2];simp[Rx.post]) (by omega) (by omega) (by omega),show st++[pr (a.fst n) (a.lst n)]=st++[(((a.fst n:Nat):Int),((a.lst n:Nat):Int))]from rfl,
   lq hr F _ _ hp (Dl (by omega) (by rw[List.length_append];omega) (by omega) hok.1 _ _)]
  have e1:(Rx.rep k a).fst n=n+2*a.len:=by simp only[Rx.fst,Rx.len];omega
  have e2:(Rx.rep k a).lst n=n+2*a.len+1:=by simp only[Rx.lst,Rx.len];omega
  have e3:E++a.ag n++([fE (n+2*a.len) (a.fst n),fE (a.lst n) (n+2*a.len+1)]++(if k=6 then []else [fE (a.lst n) (a.fst n)])++(if k=5 then []else [fE (n+2*a.len) (n+2*a.len+1)]))=E++(Rx.rep k a).ag n:=by
   simp only[Rx.ag,List.append_assoc]
  rw[e1,e2,e3,show n+2*a.len+2=n+2*(a.len+1) by omega,show l.length+a.len+1=l.length+(a.len+1) by omega]
  rfl
def nfT(t:Rx):NfI:=(((2*t.len:Nat):Int),((t.ag 0).map edI,(((t.fst 0:Nat):Int),((t.lst 0:Nat):Int))))
theorem Gw{t:Rx}(hok:t.ok)(hl:t.len<=400):FI N0 (t.post,())=some ((nfT t,(0,())),()):=by
 have tl:=t.az
 have h:=Gv (r:=t.post) (by omega) (Z:=nf 0 []) t (N0-t.len) 0 [] [] [] [] hok (by simp) (by omega) (by simp;omega) (by simp;omega)
 rw[show N0-t.len+t.len=N0 by unfold N0;omega]at h
 unfold FI
 simp only
 rw[aa (Gu hok hl)]
 simp only
 rw[decide_true,Bool.not_true,cond_false]
 refine Eq.trans h ?_
 obtain⟨q,hq⟩:∃ q,N0-t.len=q+1:=⟨N0-t.len-1,by unfold N0;omega⟩
 rw[hq,bL]
 unfold stB
 simp only
 have e:((([]:List Pc).length+t.len:Nat):Int)=((t.post.length:Nat):Int):=by rw[tl];simp
 rw[e,decide_eq_false (show ¬((t.post.length:Nat):Int)<((t.post.length:Nat):Int) by omega),cond_false,if_pos z0,List.nil_append,uC]
 simp only
 rw[if_pos z0,List.nil_append,Nat.zero_add]
 rfl
end
noncomputable section
def bsN(n:Nat)(f:Nat->Bool):List Bool:=(List.range n).map f
theorem eB(n:Nat)(f:Nat->Bool):(bsN n f).length=n:=by simp[bsN]
theorem eC{n:Nat}(f:Nat->Bool){i:Nat}(h:i<n):(bsN n f)[i]?=some (f i):=by
 unfold bsN
 rw[List.getElem?_map,List.getElem?_range h]
 rfl
theorem rX{n:Nat}(f:Nat->Bool){i:Nat}(h:i<n):(bsN n f).set i true=bsN n (λx=>f x||decide (x=i)):=by
 apply List.ext_getElem?
 intro j
 rw[List.getElem?_set]
 by_cases hj:j<n
 ·have g1:=eC (n:=n) (λx=>f x||decide (x=i)) hj
  have g2:=eC (n:=n) f hj
  rw[g1,g2]
  by_cases e:i=j
  ·subst e
   rw[if_pos rfl,if_pos (by rw[eB];exact h)]
   simp
  ·rw[if_neg e]
   have:¬j=i:=λh=>e h.symm
   simp[this]
 ·have e1:(bsN n λx=>f x||decide (x=i))[j]?=none:=List.getElem?_eq_none (by rw[eB];omega)
  have e2:(bsN n f)[j]?=none:=List.getElem?_eq_none (by rw[eB];omega)
  rw[e1,e2,if_neg (by omega)]
def cnt(f:Nat->Bool):Nat->Nat
 |0=>0
 |n+1=>(if f n then 0 else 1)+cnt f n
theorem cnt_mono{f g:Nat->Bool}:∀ n,(∀ i,i<n->f i=true->g i=true)->cnt g n<=cnt f n:=by
 intro n
 induction n with
 |zero=>intro _;exact Nat.le_refl _
 |succ n ih=>
  intro h
  have h1:=ih λi hi=>h i (by omega)
  have h2:=h n (by omega)
  simp only[cnt]
  cases hf:f n
  ·cases hg:g n <;> simp <;> omega
  ·rw[h2 hf];simp;exact h1
theorem cnt_lt{f g:Nat->Bool}{q:Nat}:∀ n,(∀ i,i<n->f i=true->g i=true)->q<n->f q=false->g q=true->cnt g n<cnt f n:=by
 intro n
 induction n with
 |zero=>intro _ h;omega
 |succ n ih=>
  intro h hq hf hg
  simp only[cnt]
  by_cases e:q=n
  ·subst e
   have h1:=cnt_mono q λi hi=>h i (by omega)
   rw[hf,hg]
   simp
   omega
  ·have h1:=ih (λi hi=>h i (by omega)) (by omega) hf hg
   have h2:=h n (by omega)
   cases hf2:f n
   ·cases hg2:g n <;> simp <;> omega
   ·rw[h2 hf2];simp;exact h1
def iP(E:List Ed)(f:Nat->Bool):Prop:=∀ e∈E,e.2.2.2=true->f e.1=true->f e.2.1=true
def InE(n:Nat)(E:List Ed):Prop:=∀ e∈E,e.1<n/\e.2.1<n
def leB(f g:Nat->Bool):Prop:=∀ i,f i=true->g i=true
def dN(E:List Ed)(f g:Nat->Bool):Prop:=leB f g/\iP E g/\∀ D,iP E D->leB f D->leB g D
theorem x5{n:Nat}(hn:n<=100000){E:List Ed}(hE:E.length<=100000)(hin:InE n E)(X:Int×Int)(f0:Nat->Bool):
 ∃ g,CD N0 (((n:Int),(E.map edI,X)),(bsN n f0,()))=some ((bsN n g,()),())/\dN E f0 g:=by
 unfold CD
 simp only
 have hcp:cpL (List.replicate ((n:Int)).toNat false) (bsN n f0)=bsN n f0:=by
  unfold cpL
  simp[eB]
  exact List.take_of_length_le (by rw[eB];exact Nat.le_refl _)
 rw[if_pos (show(0:Int)<=(n:Int)/\(n:Int)<=(n:Int) by omega),if_pos (show((n:Int)).toNat*1<=140737488355328 by rw[Int.toNat_natCast];omega),hcp]
 refine bC (λm x=>∃ (f:Nat->Bool) (c:Bool),x=((bsN n f,()),(c,()))/\leB f0 f/\(∀ D,iP E D->leB f0 D->leB f D)/\(c=false->iP E f)/\m=cnt f n+(if c=true then 1 else 0)) (λz=>∃ g,z=some ((bsN n g,()),())/\dN E f0 g) ?_ N0 (cnt f0 n+1) _ ?_ ⟨f0,true,rfl,λi h=>h,λD _ h=>h,(λh=>by cases h),rfl⟩
 ·rintro m x ⟨f,c,rfl,h1,h2,h3,hm⟩ k hk
  simp only
  cases c
  ·rw[cond_false]
   exact⟨f,rfl,h1,h3 rfl,h2⟩
  ·rw[cond_true]
   simp only[if_true]at hm
   refine bC (λm2 x=>∃ (j:Nat) (g:Nat->Bool) (c:Bool),x=((bsN n g,()),(c,((j:Int),())))/\m2+j=E.length/\leB f g/\(∀ D,iP E D->leB f0 D->leB g D)/\(c=false->g=f/\∀ (i:Nat) e,i<j->E[i]?=some e->e.2.2.2=true->f e.1=true->f e.2.1=true)/\(c=true->cnt g n<cnt f n)) (λz=>∃ g,z=some ((bsN n g,()),())/\dN E f0 g) ?_ N0 E.length _ (by unfold N0;omega) ⟨0,f,false,rfl,rfl,λi h=>h,h2,λ_=>⟨rfl,λi e hi=>by omega⟩,(λh=>by cases h)⟩
   rintro m2 x ⟨j,g,c,rfl,hmj,q1,q2,q3,q4⟩ k2 hk2
   simp only
   rcases Nat.lt_or_ge j E.length with hj|hj
   ·have n0:(0:Int)<=(j:Int):=by omega
    have hj2:(E.map edI)[j]?=some (edI E[j]):=by rw[List.getElem?_map,List.getElem?_eq_getElem hj];rfl
    have gw:E[j]∈E:=List.getElem_mem hj
    obtain⟨r1,r2⟩:=hin _ gw
    have eg:E[j]?=some E[j]:=List.getElem?_eq_getElem hj
    generalize E[j]=e at hj2 gw r1 r2 eg
    rw[decide_eq_true (show(j:Int)<(((E.map edI).length:Nat):Int) by rw[List.length_map];omega),cond_true,if_pos n0,Int.toNat_natCast,hj2]
    have n1:(0:Int)<=(e.1:Int):=by omega
    have n2:(0:Int)<=(e.2.1:Int):=by omega
    have w1:IntKind.wrap .i64 ((j:Int)+1)=((j+1:Nat):Int):=aO (by omega)
    simp only[edI,w1]
    refine bW (P:=λz=>∃ g,z=some ((bsN n g,()),())/\dN E f0 g) ((bsN n g,()),(e.2.2.2&&(g e.1&&!g e.2.1),())) (λK=>?_) ?_
    ·cases e.2.2.2
     ·rfl
     ·rw[cond_true,if_pos n1,Int.toNat_natCast,eC g r1]
      simp only
      cases g e.1
      ·rfl
      ·rw[cond_true,if_pos n2,Int.toNat_natCast,eC g r2]
       rfl
    ·simp only
     refine bW (P:=λz=>∃ g,z=some ((bsN n g,()),())/\dN E f0 g) ((bsN n (λx=>g x||(decide (x=e.2.1)&&(e.2.2.2&&(g e.1&&!g e.2.1)))),()),((c||(e.2.2.2&&(g e.1&&!g e.2.1))),())) (λK=>?_) ?_
     ·cases hb:(e.2.2.2&&(g e.1&&!g e.2.1))
      ·rw[cond_false]
       simp
      ·rw[cond_true,if_pos n2,Int.toNat_natCast,eC g r2]
       simp only
       rw[if_pos n2]
       rw[rX g r2]
       simp
     ·simp only
      refine hk2 (m2-1) _ (by omega) ⟨j+1,_,_,rfl,by omega,?_,?_,?_,?_⟩
      ·intro i hi
       show(g i||_)=true
       rw[q1 i hi];rfl
      ·intro D hD1 hD2 i hi
       rw[Bool.or_eq_true,Bool.and_eq_true,decide_eq_true_eq,Bool.and_eq_true,Bool.and_eq_true]at hi
       rcases hi with hi|⟨rfl,h4,h5,_⟩
       ·exact q2 D hD1 hD2 i hi
       ·exact hD1 e gw h4 (q2 D hD1 hD2 _ h5)
      ·intro hc
       rw[Bool.or_eq_false_iff]at hc
       obtain⟨hc1,hc2⟩:=hc
       obtain⟨rfl,q6⟩:=q3 hc1
       refine⟨?_,?_⟩
       ·funext x
        rw[hc2];simp
       ·intro i e2 hi he2 x6 hp
        by_cases hij:i=j
        ·subst hij
         rw[eg]at he2
         injection he2 with he2
         subst he2
         rw[x6,hp]at hc2
         simpa using hc2
        ·exact q6 i e2 (by omega) he2 x6 hp
      ·intro hc
       cases hb:(e.2.2.2&&(g e.1&&!g e.2.1))
       ·rw[hb,Bool.or_false]at hc
        refine Nat.lt_of_le_of_lt (cnt_mono n λi _ h=>?_) (q4 hc)
        rw[h];rfl
       ·have hb2:=hb
        rw[Bool.and_eq_true,Bool.and_eq_true,Bool.not_eq_true']at hb2
        have hlt:cnt (λx=>g x||(decide (x=e.2.1)&&true)) n<cnt g n:=cnt_lt (q:=e.2.1) n (λi _ h=>by simp[h]) r2 hb2.2.2 (by simp)
        have:cnt g n<=cnt f n:=cnt_mono n λi _ h=>q1 i h
        omega
   ·rw[decide_eq_false (show ¬(j:Int)<(((E.map edI).length:Nat):Int) by rw[List.length_map];omega),cond_false]
    refine hk (cnt g n+(if c=true then 1 else 0)) _ ?_ ⟨g,c,rfl,λi h=>q1 i (h1 i h),q2,?_,rfl⟩
    ·have:cnt g n<=cnt f n:=cnt_mono n λi _ h=>q1 i h
     cases c
     ·simp;omega
     ·have:=q4 rfl
      simp;omega
    ·intro hc
     obtain⟨rfl,q6⟩:=q3 hc
     intro e he x6 hp
     obtain⟨i,hi,hie⟩:=List.getElem_of_mem he
     exact q6 i e (by omega) (by rw[List.getElem?_eq_getElem hi,hie]) x6 hp
 ·have:∀ n,cnt f0 n<=n:=by
   intro n
   induction n with
   |zero=>exact Nat.le_refl _
   |succ n ih=>simp only[cnt];split <;> omega
  have:=this n
  unfold N0
  omega
end
noncomputable section
theorem ql(t:Rx):InE (2*t.len) (t.ag 0):=by
 intro e he
 obtain⟨h1,h2,h3,h4⟩:=t.bU 0 e he
 omega
theorem Gx{n:Nat}(hn:n<=100000){E:List Ed}(hE:E.length<=100000)(hin:InE n E){a b:Nat}(ha:a<n)(hb:b<n):
 Aa N0 (((n:Int),(E.map edI,((a:Int),(b:Int)))),())=some ((true,()),()):=by
 unfold Aa
 simp only
 refine aq ((),(false,())) (λK=>?_) ?_
 ·rw[decide_eq_false (show ¬(a:Int)<0 by omega),cond_false,decide_eq_false (show ¬(n:Int)<=(a:Int) by omega),cond_false,decide_eq_false (show ¬(b:Int)<0 by omega),cond_false,decide_eq_false (show ¬(n:Int)<=(b:Int) by omega)]
 ·simp only
  rw[cond_false]
  refine au (λm x q=>∃ j:Nat,x=((),((j:Int),()))/\m+j=E.length/\q=some ((true,()),())) ?_ N0 E.length _ _ (by unfold N0;omega) ⟨0,rfl,rfl,rfl⟩
  rintro m x q ⟨j,rfl,hm,rfl⟩ k hk
  simp only
  rcases Nat.lt_or_ge j E.length with hj|hj
  ·have n0:(0:Int)<=(j:Int):=by omega
   have hj2:(E.map edI)[j]?=some (edI E[j]):=by rw[List.getElem?_map,List.getElem?_eq_getElem hj];rfl
   obtain⟨r1,r2⟩:=hin _ (List.getElem_mem hj)
   generalize E[j]=e at hj2 r1 r2
   rw[decide_eq_true (show(j:Int)<(((E.map edI).length:Nat):Int) by rw[List.length_map];omega),cond_true,if_pos n0,Int.toNat_natCast,hj2]
   simp only
   refine aq ((),(false,())) (λK=>?_) ?_
   ·rw[decide_eq_false (show ¬(e.1:Int)<0 by omega),cond_false,decide_eq_false (show ¬(n:Int)<=(e.1:Int) by omega),cond_false,decide_eq_false (show ¬(e.2.1:Int)<0 by omega),cond_false,decide_eq_false (show ¬(n:Int)<=(e.2.1:Int) by omega)]
   ·simp only
    rw[cond_false,aO (by omega)]
    exact hk (m-1) _ _ (by omega) ⟨j+1,rfl,by omega,rfl⟩
  ·rw[decide_eq_false (show ¬(j:Int)<(((E.map edI).length:Nat):Int) by rw[List.length_map];omega),cond_false]
theorem uG{t:Rx}(hl:t.len<=400):Aa N0 (nfT t,())=some ((true,()),()):=by
 have h1:=t.ky 0
 have h2:=t.gR 0
 have h3:=eT t 0
 exact Gx (n:=2*t.len) (by omega) (by omega) (ql t) (by omega) (by omega)
def eD(E:List Ed):List (List Int):=(E.filter λe=>!e.2.2.2).map λe=>e.2.2.1
theorem qm(E:List Ed):(eD E).length<=E.length:=by
 unfold eD
 rw[List.length_map]
 exact List.length_filter_le _ _
theorem Gy{n:Nat}{E:List Ed}(hE:E.length<=100000)(X:Int×Int):FJ N0 (((n:Int),(E.map edI,X)),())=some ((eD E,()),()):=by
 unfold FJ
 simp only
 refine au (λm x q=>∃ j:Nat,x=((),(eD (E.take j),((j:Int),())))/\m+j=E.length/\q=some ((eD E,()),())) ?_ N0 E.length _ _ (by unfold N0;omega) ⟨0,rfl,rfl,rfl⟩
 rintro m x q ⟨j,rfl,hm,rfl⟩ k hk
 simp only
 rcases Nat.lt_or_ge j E.length with hj|hj
 ·have n0:(0:Int)<=(j:Int):=by omega
  have hj2:(E.map edI)[j]?=some (edI E[j]):=by rw[List.getElem?_map,List.getElem?_eq_getElem hj];rfl
  have htk:E.take (j+1)=E.take j++[E[j]]:=by rw[List.take_add_one,List.getElem?_eq_getElem hj];rfl
  have hse:eD (E.take (j+1))=eD (E.take j)++eD [E[j]]:=by
   rw[htk];unfold eD;rw[List.filter_append,List.map_append]
  have hlen:(eD (E.take j)).length<=j:=Nat.le_trans (qm _) (by rw[List.length_take];omega)
  generalize E[j]=e at hj2 hse
  rw[decide_eq_true (show(j:Int)<(((E.map edI).length:Nat):Int) by rw[List.length_map];omega),cond_true,if_pos n0,Int.toNat_natCast,hj2]
  simp only
  refine aq ((),(eD (E.take (j+1)),())) (λK=>?_) ?_
  ·rw[hse]
   cases hb:e.2.2.2
   ·have es:eD [e]=[e.2.2.1]:=by unfold eD;simp[hb]
    have c1:((eD (E.take j)).length+([e.2.2.1]:List (List Int)).length)*32<=140737488355328:=by simp;omega
    have c2:(eD (E.take j)).length+([e.2.2.1]:List (List Int)).length<=9223372036854775807:=by simp;omega
    rw[Bool.not_false,cond_true,if_pos c1,if_pos c2,es]
   ·have es:eD [e]=[]:=by unfold eD;simp[hb]
    rw[Bool.not_true,cond_false,es,List.append_nil]
  ·simp only
   rw[aO (by omega)]
   exact hk (m-1) _ _ (by omega) ⟨j+1,rfl,by omega,rfl⟩
 ·have hj2:j=E.length:=by omega
  rw[decide_eq_false (show ¬(j:Int)<(((E.map edI).length:Nat):Int) by rw[List.length_map];omega),cond_false,hj2,List.take_length]
end
noncomputable section
theorem Gz{a b:Nat}(ha:a<18446744073709551616)(hb:b<18446744073709551616):ek .and .u64 (a:Int) (b:Int)=((a&&& b:Nat):Int):=by
 have hlt:a&&& b<2 ^ 64:=Nat.and_lt_two_pow _ hb
 simp only[ek,BitVec.toNat_and,l8 ha,l8 hb]
 exact wrap_u64 hlt
theorem GA(l:Nat->Bool){c:Nat}(h:c<256):Ab N0 (ofB l,((c:Int),()))=some ((l c,()),()):=by
 unfold Ab
 have hw:c / 64<4:=by omega
 have hl:c % 64<64:=Nat.mod_lt _ (by omega)
 have w1:IntKind.wrap .u8 (Int.tdiv (c:Int) 64)=((c / 64:Nat):Int):=by rw[CY];exact gm (by omega)
 have g:=fK (l:=l) hw
 have n1:¬((64:Int)=0):=by omega
 have n2:¬(((c % 64:Nat):Int)<0):=by omega
 have n3:(0:Int)<=((c / 64:Nat):Int):=by omega
 simp only[w1,CZ]
 rw[if_neg n1,if_pos n3,Int.toNat_natCast,g]
 simp only
 rw[if_neg n1,if_neg n2]
 have e1:Nat.min (Int.toNat ((c % 64:Nat):Int)) (IntKind.bits .u64)=c % 64:=by
  rw[Int.toNat_natCast];exact Nat.min_eq_left (by show c % 64<=64;omega)
 have hlt:=bX l (c / 64)
 have e2:Int.fdiv ((aI l (c / 64):Nat):Int) (2 ^ (c % 64))=((aI l (c / 64) / 2 ^ (c % 64):Nat):Int):=by
  rw[show(2:Int) ^ (c % 64)=((2 ^ (c % 64):Nat):Int) by simp]
  rw[Int.fdiv_eq_ediv_of_nonneg _ (Int.natCast_nonneg (2 ^ (c % 64)))]
  exact(Int.natCast_ediv _ _).symm
 have e3:ek .and .u64 ((aI l (c / 64) / 2 ^ (c % 64):Nat):Int) 1=((aI l (c / 64) / 2 ^ (c % 64) % 2:Nat):Int):=by
  have:=Gz (a:=aI l (c / 64) / 2 ^ (c % 64)) (b:=1) (Nat.lt_of_le_of_lt (Nat.div_le_self _ _) hlt) (by omega)
  rw[Nat.and_one_is_mod]at this
  exact this
 have hb:=bM l (c / 64) (c % 64)
 rw[Nat.testBit_eq_decide_div_mod_eq,show 64*(c / 64)+c % 64=c by omega,decide_eq_true hl,Bool.true_and]at hb
 have e4:decide (((aI l (c / 64) / 2 ^ (c % 64) % 2:Nat):Int)=1)=l c:=by
  rw[<-hb,decide_eq_decide];omega
 rw[e1,e2,e3,e4]
def hasB(S:List Int)(c:Nat):Bool:=((S[c / 64]?).getD 0).toNat.testBit (c % 64)
theorem lu(l:Nat->Bool){c:Nat}(h:c<256):hasB (ofB l) c=l c:=by
 unfold hasB
 rw[fK (l:=l) (show c / 64<4 by omega)]
 show(((aI l (c / 64):Nat):Int).toNat).testBit (c % 64)=l c
 rw[Int.toNat_natCast,bM,show 64*(c / 64)+c % 64=c by omega,decide_eq_true (show c % 64<64 by omega),Bool.true_and]
def qn(S:List Int):Prop:=S.length=4/\∀ x∈S,0<=x/\x<=18446744073709551615
theorem uH{S:List Int}(h:qn S){c:Nat}(hc:c<256):Ab N0 (S,((c:Int),()))=some ((hasB S c,()),()):=by
 obtain⟨l,rfl⟩:=x4 h.1 h.2
 rw[GA l hc,lu l hc]
def aB(E:List Ed)(f:Nat->Bool)(c:Nat):Nat->Bool:=λx=>E.any λe=>!e.2.2.2&&(f e.1&&(hasB e.2.2.1 c&&decide (x=e.2.1)))
theorem Jy(t:Rx)(hok:t.ok):∀ (n:Nat),∀ e∈t.ag n,qn e.2.2.1:=by
 have hz:qn zS:=⟨rfl,by decide⟩
 induction t with
 |eps=>intro n e he;simp[Rx.ag,fE]at he;subst he;exact hz
 |set S=>intro n e he;simp[Rx.ag]at he;subst he;exact⟨hok.1,hok.2.2⟩
 |cat a b iha ihb=>
  intro n e he
  simp only[Rx.ag,List.mem_append,List.mem_cons,List.not_mem_nil,or_false]at he
  rcases he with(he|he)|he|he|he
  ·exact iha hok.1 n e he
  ·exact ihb hok.2 _ e he
  all_goals subst he;exact hz
 |alt a b iha ihb=>
  intro n e he
  simp only[Rx.ag,List.mem_append,List.mem_cons,List.not_mem_nil,or_false]at he
  rcases he with(he|he)|he|he|he|he
  ·exact iha hok.1 n e he
  ·exact ihb hok.2 _ e he
  all_goals subst he;exact hz
 |rep k a ih=>
  intro n e he
  simp only[Rx.ag,List.mem_append,List.mem_cons,List.not_mem_nil,or_false]at he
  rcases he with((he|he|he)|he)|he
  ·exact ih hok.2 n e he
  ·subst he;exact hz
  ·subst he;exact hz
  ·split at he
   ·simp at he
   ·simp only[List.mem_singleton]at he;subst he;exact hz
  ·split at he
   ·simp at he
   ·simp only[List.mem_singleton]at he;subst he;exact hz
theorem GB{n:Nat}(hn:n<=100000){E:List Ed}(hE:E.length<=100000)(hin:InE n E)(hS:∀ e∈E,qn e.2.2.1)(X:Int×Int)(f:Nat->Bool){c:Nat}(hc:c<256):
 FP N0 (((n:Int),(E.map edI,X)),(bsN n f,((c:Int),())))=some ((bsN n (aB E f c),()),()):=by
 unfold FP
 simp only
 have aL:List.replicate ((n:Int)).toNat false=bsN n (aB [] f c):=by
  rw[Int.toNat_natCast]
  unfold bsN aB
  apply List.ext_getElem?
  intro i
  rw[List.getElem?_map]
  by_cases hi:i<n
  ·rw[List.getElem?_range hi,List.getElem?_replicate,if_pos hi];rfl
  ·rw[List.getElem?_eq_none (by rw[List.length_replicate];omega),List.getElem?_eq_none (by rw[List.length_range];omega)];rfl
 rw[if_pos (show(0:Int)<=(n:Int)/\(n:Int)<=(n:Int) by omega),if_pos (show((n:Int)).toNat*1<=140737488355328 by rw[Int.toNat_natCast];omega),aL]
 refine au (λm x q=>∃ j:Nat,x=((bsN n (aB (E.take j) f c),()),((j:Int),()))/\m+j=E.length/\q=some ((bsN n (aB E f c),()),())) ?_ N0 E.length _ _ (by unfold N0;omega) ⟨0,rfl,rfl,rfl⟩
 rintro m x q ⟨j,rfl,hm,rfl⟩ k hk
 simp only
 rcases Nat.lt_or_ge j E.length with hj|hj
 ·have n0:(0:Int)<=(j:Int):=by omega
  have hj2:(E.map edI)[j]?=some (edI E[j]):=by rw[List.getElem?_map,List.getElem?_eq_getElem hj];rfl
  have htk:E.take (j+1)=E.take j++[E[j]]:=by rw[List.take_add_one,List.getElem?_eq_getElem hj];rfl
  obtain⟨r1,r2⟩:=hin _ (List.getElem_mem hj)
  have hse:=hS _ (List.getElem_mem hj)
  generalize E[j]=e at hj2 htk r1 r2 hse
  have hst:∀ x,aB (E.take (j+1)) f c x=(aB (E.take j) f c x||(!e.2.2.2&&(f e.1&&(hasB e.2.2.1 c&&decide (x=e.2.1))))):=by
   intro x
   rw[htk]
   unfold aB
   rw[List.any_append]
   simp
  have n1:(0:Int)<=(e.1:Int):=by omega
  have n2:(0:Int)<=(e.2.1:Int):=by omega
  rw[decide_eq_true (show(j:Int)<(((E.map edI).length:Nat):Int) by rw[List.length_map];omega),cond_true,if_pos n0,Int.toNat_natCast,hj2]
  simp only
  refine aq ((bsN n (aB (E.take j) f c),()),((!e.2.2.2&&(f e.1&&hasB e.2.2.1 c)),())) (λK=>?_) ?_
  ·cases e.2.2.2
   ·rw[Bool.not_false,cond_true,decide_eq_true (show(e.1:Int)<(((bsN n f).length:Nat):Int) by rw[eB];omega),cond_true,if_pos n1,Int.toNat_natCast,eC f r1]
    simp only
    cases f e.1
    ·rfl
    ·rw[cond_true,aa (uH hse hc)]
     rfl
   ·rfl
  ·simp only
   have w1:IntKind.wrap .i64 ((j:Int)+1)=((j+1:Nat):Int):=aO (by omega)
   rw[w1]
   refine aq ((bsN n (aB (E.take (j+1)) f c),()),()) (λK=>?_) ?_
   ·cases hb:(!e.2.2.2&&(f e.1&&hasB e.2.2.1 c))
    ·rw[cond_false]
     have:aB (E.take (j+1)) f c=aB (E.take j) f c:=by
      funext x
      rw[hst x]
      have:(!e.2.2.2&&(f e.1&&(hasB e.2.2.1 c&&decide (x=e.2.1))))=((!e.2.2.2&&(f e.1&&hasB e.2.2.1 c))&&decide (x=e.2.1)):=by simp[Bool.and_assoc]
      rw[this,hb];simp
     rw[this]
    ·rw[cond_true,if_pos n2,Int.toNat_natCast,eC _ r2]
     simp only
     rw[if_pos n2,rX _ r2]
     have:aB (E.take (j+1)) f c=λx=>aB (E.take j) f c x||decide (x=e.2.1):=by
      funext x
      rw[hst x]
      have:(!e.2.2.2&&(f e.1&&(hasB e.2.2.1 c&&decide (x=e.2.1))))=((!e.2.2.2&&(f e.1&&hasB e.2.2.1 c))&&decide (x=e.2.1)):=by simp[Bool.and_assoc]
      rw[this,hb];simp
     rw[this]
   ·simp only
    exact hk (m-1) _ _ (by omega) ⟨j+1,rfl,by omega,rfl⟩
 ·have hj2:j=E.length:=by omega
  rw[decide_eq_false (show ¬(j:Int)<(((E.map edI).length:Nat):Int) by rw[List.length_map];omega),cond_false,hj2,List.take_length]
end
noncomputable section
theorem uI(l:Nat->Bool)(w:Nat):∃ n,n=iY (λi=>l (8*w+i)) 8:=⟨_,rfl⟩
def ia(l:Nat->Bool)(w:Nat):Nat:=Classical.choose (uI l w)
theorem qo(l:Nat->Bool)(w:Nat):ia l w=iY (λi=>l (8*w+i)) 8:=Classical.choose_spec (uI l w)
theorem Dm(l:Nat->Bool)(w:Nat):ia l w<256:=by rw[qo];exact oQ _ 8
theorem eU(l:Nat->Bool)(w i:Nat):(ia l w).testBit i=(decide (i<8)&&l (8*w+i)):=by rw[qo];exact qd _ 8 i
theorem Ap{l m:Nat->Bool}{w:Nat}(h:∀ i,i<8->l (8*w+i)=m (8*w+i)):ia l w=ia m w:=by
 apply Nat.eq_of_testBit_eq
 intro i
 rw[eU,eU]
 by_cases hi:i<8
 ·rw[h i hi]
 ·simp[hi]
theorem GC{l:Nat->Bool}{w i:Nat}(hi:i<8):ia l w|||2 ^ i=ia (λx=>l x||decide (x=8*w+i)) w:=by
 apply Nat.eq_of_testBit_eq
 intro j
 rw[Nat.testBit_or,eU,eU,Nat.testBit_two_pow]
 by_cases hj:j<8
 ·simp only[hj,decide_true,Bool.true_and]
  congr 1
  rw[decide_eq_decide];omega
 ·simp only[hj,decide_false,Bool.false_and,Bool.false_or,decide_eq_false_iff_not];omega
theorem x7{n:Nat}(h:n<256):(BitVec.ofInt (IntKind.bits .u8) (n:Int)).toNat=n:=by
 have:IntKind.bits .u8=8:=rfl
 rw[this,BitVec.toNat_ofInt]
 omega
theorem GD{a b:Nat}(ha:a<256)(hb:b<256):ek .or .u8 (a:Int) (b:Int)=((a|||b:Nat):Int):=by
 have hlt:a|||b<2 ^ 8:=Nat.or_lt_two_pow ha hb
 simp only[ek,BitVec.toNat_or,x7 ha,x7 hb]
 exact gm hlt
theorem x8{i:Nat}(h:i<8):2 ^ i<256:=Nat.lt_of_lt_of_le (Nat.pow_lt_pow_right (by omega) h) (by decide)
theorem uJ{i:Nat}(h:i<8):IntKind.wrap .u8 ((1:Int)*2 ^ (Nat.min (Int.toNat (i:Int)) (IntKind.bits .u8)))=((2 ^ i:Nat):Int):=by
 have e:Nat.min (Int.toNat (i:Int)) (IntKind.bits .u8)=i:=by
  rw[Int.toNat_natCast];exact Nat.min_eq_left (by show i<=8;omega)
 rw[e,Int.one_mul]
 have:=gm (x8 h)
 rw[<-this]
 congr 1
def dy(n:Nat)(l:Nat->Bool):List Int:=(List.range ((n+7) / 8)).map λw=>((ia l w:Nat):Int)
theorem lv(n:Nat)(l:Nat->Bool):(dy n l).length=(n+7) / 8:=by simp[dy]
theorem gp{n:Nat}(l:Nat->Bool){w:Nat}(h:w<(n+7) / 8):(dy n l)[w]?=some ((ia l w:Nat):Int):=by
 unfold dy
 rw[List.getElem?_map,List.getElem?_range h]
 rfl
theorem uK{n:Nat}(l:Nat->Bool){i:Nat}(h:i<n):(dy n l).set (i / 8) (ek .or .u8 ((ia l (i / 8):Nat):Int) ((2 ^ (i % 8):Nat):Int))=dy n (λx=>l x||decide (x=i)):=by
 have hi:i % 8<8:=Nat.mod_lt _ (by omega)
 rw[GD (Dm _ _) (x8 hi),GC hi,show 8*(i / 8)+i % 8=i by omega]
 apply List.ext_getElem?
 intro j
 rw[List.getElem?_set]
 by_cases hj:j<(n+7) / 8
 ·have g1:=gp (n:=n) (λx=>l x||decide (x=i)) hj
  have g2:=gp (n:=n) l hj
  rw[g1,g2]
  by_cases e:i / 8=j
  ·subst e
   rw[if_pos rfl,if_pos (by rw[lv];omega)]
  ·rw[if_neg e,Ap (l:=l) (m:=λx=>l x||decide (x=i)) (w:=j) λk hk=>by
    have:¬8*j+k=i:=by omega
    simp[this]]
 ·have e1:(dy n λx=>l x||decide (x=i))[j]?=none:=List.getElem?_eq_none (by rw[lv];omega)
  have e2:(dy n l)[j]?=none:=List.getElem?_eq_none (by rw[lv];omega)
  rw[e1,e2,if_neg (by omega)]
theorem qp(n:Nat):List.replicate ((n+7) / 8) (0:Int)=dy n (λ_=>false):=by
 apply List.ext_getElem?
 intro j
 by_cases hj:j<(n+7) / 8
 ·rw[gp _ hj,List.getElem?_replicate,if_pos hj]
  have:ia (λ_=>false) j=0:=by
   apply Nat.eq_of_testBit_eq
   intro i
   rw[eU]
   simp
  rw[this];rfl
 ·rw[List.getElem?_eq_none (by rw[List.length_replicate];omega),List.getElem?_eq_none (by rw[lv];omega)]
theorem Dn{n:Nat}{l m:Nat->Bool}(h:dy n l=dy n m):∀ i,i<n->l i=m i:=by
 intro i hi
 have hw:i / 8<(n+7) / 8:=by omega
 have g:(dy n l)[i / 8]?=(dy n m)[i / 8]?:=by rw[h]
 rw[gp _ hw,gp _ hw]at g
 injection g with g
 have g:ia l (i / 8)=ia m (i / 8):=by omega
 have b1:=eU l (i / 8) (i % 8)
 have b2:=eU m (i / 8) (i % 8)
 rw[g,b2,show 8*(i / 8)+i % 8=i by omega,decide_eq_true (show i % 8<8 by omega),Bool.true_and,Bool.true_and]at b1
 exact b1.symm
theorem ib{n:Nat}{l m:Nat->Bool}(h:∀ i,l i=m i):dy n l=dy n m:=by
 have:l=m:=funext h
 rw[this]
theorem Ms{n:Nat}(hn:n<=100000):IntKind.wrap .i64 (Int.tdiv (IntKind.wrap .i64 ((n:Int)+7)) 8)=(((n+7) / 8:Nat):Int):=by
 have e:(n:Int)+7=((n+7:Nat):Int):=by omega
 rw[e,aM (by omega),show(8:Int)=((8:Nat):Int) by rfl,<-Int.ofNat_tdiv]
 exact aM (by omega)
theorem td8(i:Nat)(h:i<=100000):IntKind.wrap .i64 (Int.tdiv (i:Int) 8)=((i / 8:Nat):Int):=by
 rw[show(8:Int)=((8:Nat):Int) by rfl,<-Int.ofNat_tdiv]
 exact aM (by omega)
theorem tm8(i:Nat):IntKind.wrap .u64 (Int.tmod (i:Int) 8)=((i % 8:Nat):Int):=by
 rw[show(8:Int)=((8:Nat):Int) by rfl,<-Int.ofNat_tmod]
 exact wrap_u64 (by omega)
def wP(n:Nat)(f:Nat->Bool):Nat->Bool:=λx=>decide (x<n)&&f x
theorem GF{n:Nat}(hn:n<=100000)(f:Nat->Bool):FM N0 (bsN n f,())=some ((dy n (wP n f),()),()):=by
 unfold FM
 have n8:¬((8:Int)=0):=by omega
 simp only[eB,Ms hn]
 rw[if_neg n8,if_pos ⟨by omega,by omega⟩,if_pos (by rw[Int.toNat_natCast];omega),Int.toNat_natCast,qp]
 have e0:dy n (λ_=>false)=dy n (λx=>decide (x<0)&&f x):=ib λi=>by simp
 rw[e0]
 refine au (λm x q=>∃ j:Nat,x=((dy n (λx=>decide (x<j)&&f x),()),((j:Int),()))/\m+j=n/\q=some ((dy n (wP n f),()),())) ?_ N0 n _ _ (by unfold N0;omega) ⟨0,rfl,rfl,rfl⟩
 rintro m x q ⟨j,rfl,hm,rfl⟩ k hk
 simp only
 rcases Nat.lt_or_ge j n with hj|hj
 ·have n0:(0:Int)<=(j:Int):=by omega
  have n1:(0:Int)<=((j / 8:Nat):Int):=by omega
  have n2:¬(((j % 8:Nat):Int)<0):=by omega
  have hw:j / 8<(n+7) / 8:=by omega
  have h8:j % 8<8:=Nat.mod_lt _ (by omega)
  rw[decide_eq_true (show(j:Int)<(n:Int) by omega),cond_true,if_pos n0,Int.toNat_natCast,eC f hj]
  simp only
  refine aq ((dy n (λx=>decide (x<j+1)&&f x),()),()) (λK=>?_) ?_
  ·have est:∀ x,(decide (x<j+1)&&f x)=((decide (x<j)&&f x)||(decide (x=j)&&f j)):=by
    intro x
    by_cases hx:x=j
    ·subst hx
     have h1:¬x<x:=by omega
     have h2:x<x+1:=by omega
     simp[h1,h2]
    ·have:(x<j+1)↔(x<j):=by omega
     simp[this,hx]
   cases hb:f j
   ·rw[cond_false,ib (n:=n) (l:=λx=>decide (x<j+1)&&f x) (m:=λx=>decide (x<j)&&f x) λx=>by rw[est x,hb];simp]
   ·rw[cond_true,if_neg n8,td8 j (by omega),if_pos n1,Int.toNat_natCast,gp _ hw]
    simp only
    rw[if_neg n8,tm8,if_neg n2,if_pos n1]
    simp only[if_pos n1,uJ h8]
    rw[uK _ hj,ib (n:=n) (l:=λx=>decide (x<j+1)&&f x) (m:=λx=>(decide (x<j)&&f x)||decide (x=j)) λx=>by rw[est x,hb];simp]
  ·simp only
   rw[aO (by omega)]
   exact hk (m-1) _ _ (by omega) ⟨j+1,rfl,by omega,rfl⟩
 ·have:j=n:=by omega
  subst this
  rw[decide_eq_false (show ¬(j:Int)<(j:Int) by omega),cond_false]
  rfl
end
noncomputable section
def inS(bN:List (List Int))(c:Nat)(x:Nat):Bool:=hasB ((bN[x]?).getD []) c
theorem GG{bN:List (List Int)}(hn:bN.length<=100000)(hS:∀ S∈bN,qn S){c:Nat}(hc:c<256):FK N0 (bN,((c:Int),()))=some ((dy bN.length (wP bN.length (inS bN c)),()),()):=by
 unfold FK
 have n8:¬((8:Int)=0):=by omega
 simp only[Ms hn]
 rw[if_neg n8,if_pos ⟨by omega,by omega⟩,if_pos (by rw[Int.toNat_natCast];omega),Int.toNat_natCast,qp]
 have e0:dy bN.length (λ_=>false)=dy bN.length (λx=>decide (x<0)&&inS bN c x):=ib λi=>by simp
 rw[e0]
 refine au (λm x q=>∃ j:Nat,x=((dy bN.length (λx=>decide (x<j)&&inS bN c x),()),((j:Int),()))/\m+j=bN.length/\q=some ((dy bN.length (wP bN.length (inS bN c)),()),())) ?_ N0 bN.length _ _ (by unfold N0;omega) ⟨0,rfl,rfl,rfl⟩
 rintro m x q ⟨j,rfl,hm,rfl⟩ k hk
 simp only
 rcases Nat.lt_or_ge j bN.length with hj|hj
 ·have n0:(0:Int)<=(j:Int):=by omega
  have n1:(0:Int)<=((j / 8:Nat):Int):=by omega
  have n2:¬(((j % 8:Nat):Int)<0):=by omega
  have hw:j / 8<(bN.length+7) / 8:=by omega
  have h8:j % 8<8:=Nat.mod_lt _ (by omega)
  have hj2:bN[j]?=some bN[j]:=List.getElem?_eq_getElem hj
  have hin:inS bN c j=hasB bN[j] c:=by unfold inS;rw[hj2];rfl
  have hok:=hS _ (List.getElem_mem hj)
  generalize bN[j]=S at hj2 hin hok
  rw[decide_eq_true (show(j:Int)<((bN.length:Nat):Int) by omega),cond_true,if_pos n0,Int.toNat_natCast,hj2]
  simp only
  rw[aa (uH hok hc),<-hin]
  simp only
  refine aq ((dy bN.length (λx=>decide (x<j+1)&&inS bN c x),()),()) (λK=>?_) ?_
  ·have est:∀ x,(decide (x<j+1)&&inS bN c x)=((decide (x<j)&&inS bN c x)||(decide (x=j)&&inS bN c j)):=by
    intro x
    by_cases hx:x=j
    ·subst hx
     have h1:¬x<x:=by omega
     have h2:x<x+1:=by omega
     simp[h1,h2]
    ·have:(x<j+1)↔(x<j):=by omega
     simp[this,hx]
   cases hb:inS bN c j
   ·rw[cond_false,ib (n:=bN.length) (l:=λx=>decide (x<j+1)&&inS bN c x) (m:=λx=>decide (x<j)&&inS bN c x) λx=>by rw[est x,hb];simp]
   ·rw[cond_true,if_neg n8,td8 j (by omega),if_pos n1,Int.toNat_natCast,gp _ hw]
    simp only
    rw[if_neg n8,tm8,if_neg n2,if_pos n1]
    simp only[if_pos n1,uJ h8]
    rw[uK _ hj,ib (n:=bN.length) (l:=λx=>decide (x<j+1)&&inS bN c x) (m:=λx=>(decide (x<j)&&inS bN c x)||decide (x=j)) λx=>by rw[est x,hb];simp]
  ·simp only
   rw[aO (by omega)]
   exact hk (m-1) _ _ (by omega) ⟨j+1,rfl,by omega,rfl⟩
 ·have:j=bN.length:=by omega
  subst this
  rw[decide_eq_false (show ¬((bN.length:Nat):Int)<((bN.length:Nat):Int) by omega),cond_false]
  rfl
end
noncomputable section
theorem Dp{α β:Type}(eq:α->α->Bool)(k:α)(v:β):∀ x:List (α×β),(cu eq k v x).length<=x.length+1:=by
 intro x
 induction x with
 |nil=>simp[cu]
 |cons p r ih=>
  simp only[cu]
  cases eq k p.1
  ·simp;exact ih
  ·simp
theorem wQ(x:Int):0<=IntKind.wrap .u8 x/\IntKind.wrap .u8 x<=255:=by
 have h:=cC .u8 x
 exact⟨h.1,h.2⟩
def mS(arr:List Int):Prop:=arr.length=256/\∀ v∈arr,0<=v/\v<=255
theorem Aq{arr:List Int}(h:mS arr)(i:Nat)(x:Int):mS (arr.set i (IntKind.wrap .u8 x)):=by
 refine⟨by rw[List.length_set];exact h.1,λv hv=>?_⟩
 rcases List.mem_or_eq_of_mem_set hv with hv|rfl
 ·exact h.2 v hv
 ·exact wQ x
theorem GH{bN:List (List Int)}(hn:bN.length<=100000)(hS:∀ S∈bN,qn S):∃ arr,FL N0 (bN,())=some ((arr,()),())/\mS arr:=by
 unfold FL
 simp only
 have hz:mS (List.replicate 256 (0:Int)):=⟨List.length_replicate,λv hv=>by rw[List.mem_replicate]at hv;omega⟩
 generalize List.replicate 256 (0:Int)=zs at hz |-
 refine bC (λm x=>∃ (c:Nat) (arr:List Int) (mp:List (List Int×Int)),x=((zs,(arr,(mp,()))),((c:Int),()))/\m+c=256/\mS arr/\mp.length<=c) (λz=>∃ arr,z=some ((arr,()),())/\mS arr) ?_ N0 256 _ (by unfold N0;omega) ⟨0,zs,[],rfl,rfl,hz,Nat.le_refl _⟩
 rintro m x ⟨c,arr,mp,rfl,hm,ha,hmp⟩ k hk
 simp only
 rcases Nat.lt_or_ge c 256 with hc|hc
 ·have n0:(0:Int)<=(c:Int):=by omega
  obtain⟨v,hv⟩:∃ v,arr[c]?=some v:=⟨arr[c]'(by rw[ha.1];exact hc),List.getElem?_eq_getElem _⟩
  rw[decide_eq_true (show(c:Int)<256 by omega),cond_true,gm hc,aa (GG hn hS hc)]
  simp only
  refine cH (P:=λz=>∃ arr,z=some ((arr,()),())/\mS arr) λK hK=>?_
  have go:∀ (mp':List (List Int×Int)) (y:Int),mp'.length<=c+1->∃ r,K ((zs,(arr,(mp',()))),(y,()))=some ((r,()),())/\mS r:=by
   intro mp' y hl
   rw[hK]
   simp only
   rw[if_pos n0,Int.toNat_natCast,hv]
   simp only
   rw[if_pos n0,aO (by omega)]
   exact hk (m-1) _ (by omega) ⟨c+1,_,mp',rfl,by omega,Aq ha c y,hl⟩
  generalize dy bN.length (wP bN.length (inS bN c))=key
  cases hh:cT (λv10 v11=>decide (v10=v11)) key mp
  ·have H3:q8 mp=true:=by
    unfold q8 maxLen
    rw[Nat.blt_eq]
    omega
   rw[Bool.not_false,cond_true,H3,cond_true]
   exact go _ _ (Nat.le_trans (Dp _ _ _ _) (by omega))
  ·rw[Bool.not_true,cond_false]
   exact go _ _ (by omega)
 ·rw[decide_eq_false (show ¬(c:Int)<256 by omega),cond_false]
  exact⟨arr,rfl,ha⟩
end
noncomputable section
def mkL(n last:Nat):List Int:=(List.range n).map λq=>if q=last then 0 else -1
theorem x9(n last:Nat):(mkL n last).length=n:=by simp[mkL]
theorem ya{n:Nat}(last:Nat){i:Nat}(h:i<n):(mkL n last)[i]?=some (if i=last then 0 else -1):=by
 unfold mkL
 rw[List.getElem?_map,List.getElem?_range h]
 rfl
theorem GI{n:Nat}(last:Nat){i:Nat}(h:i<n):FN N0 (mkL n last,((i:Int),()))=some ((if i=last then 0 else -1,()),()):=by
 unfold FN
 have n0:(0:Int)<=(i:Int):=by omega
 simp only
 rw[decide_eq_false (show ¬(((mkL n last).length:Nat):Int)<=(i:Int) by rw[x9];omega),cond_false,if_pos n0,Int.toNat_natCast,ya last h]
def eE(f:Nat->Bool)(last i:Nat):Int:=if f last=true/\last<i then 0 else -1
theorem GJ{n:Nat}(hn:n<=100000){last:Nat}(hl:last<n)(b)(hb:b.2.1=mkL n last)(f:Nat->Bool):FO N0 (some b,(bsN n f,()))=some ((eE f last n,()),()):=by
 unfold FO
 simp only[hb]
 refine au (λm x q=>∃ i:Nat,x=((),(eE f last i,((i:Int),())))/\m+i=n/\q=some ((eE f last n,()),())) ?_ N0 n _ _ (by unfold N0;omega) ⟨0,by rw[show eE f last 0=-1 from by unfold eE;rw[if_neg (by omega)]];rfl,rfl,rfl⟩
 rintro m x q ⟨i,rfl,hm,rfl⟩ k hk
 simp only
 rcases Nat.lt_or_ge i n with hi|hi
 ·have n0:(0:Int)<=(i:Int):=by omega
  rw[decide_eq_true (show(i:Int)<(((bsN n f).length:Nat):Int) by rw[eB];omega),cond_true,if_pos n0,Int.toNat_natCast,eC f hi]
  simp only
  rw[aa (GI last hi)]
  simp only
  refine aq ((),(f i&&decide (i=last),())) (λK=>?_) ?_
  ·cases f i
   ·rfl
   ·rw[cond_true]
    by_cases e:i=last
    ·subst e
     have h1:eE f i i=-1:=by unfold eE;rw[if_neg (by omega)]
     rw[if_pos rfl,h1]
     simp
    ·rw[if_neg e]
     simp[e]
  ·simp only
   refine aq ((),(eE f last (i+1),())) (λK=>?_) ?_
   ·by_cases e:i=last
    ·subst e
     cases hf:f i
     ·have h1:eE f i i=eE f i (i+1):=by unfold eE;simp[hf]
      simp[h1]
     ·have h1:eE f i (i+1)=0:=by unfold eE;rw[if_pos ⟨hf,by omega⟩]
      simp[h1]
    ·have h1:eE f last i=eE f last (i+1):=by
      unfold eE
      have:(last<i+1)↔(last<i):=by omega
      simp[this]
     simp[e,h1]
   ·simp only
    rw[aO (by omega)]
    exact hk (m-1) _ _ (by omega) ⟨i+1,rfl,by omega,rfl⟩
 ·have:i=n:=by omega
  subst this
  rw[decide_eq_false (show ¬(i:Int)<(((bsN i f).length:Nat):Int) by rw[eB];omega),cond_false]
end
noncomputable section
theorem wR{E:List Ed}{g:Nat->Bool}(hg:iP E g){p q:Nat}(h:Fr0 E p q)(hp:g p=true):g q=true:=by
 induction h with
 |refl=>exact hp
 |step _ he ih=>exact hg _ he rfl ih
theorem Ar(t:Rx){g:Nat->Bool}(h:dN (t.ag 0) (λx=>decide (x=t.fst 0)) g):g (t.lst 0)=t.null:=by
 obtain⟨h1,h2,h3⟩:=h
 cases hn:t.null
 ·have hle:=h3 (t.cl 0) (λe he hf hp=>t.xP 0 e he hf hp) (λx hx=>by
   rw[decide_eq_true_eq]at hx
   rw[hx];exact t.jH 0)
  cases hg:g (t.lst 0)
  ·rfl
  ·have:=hle _ hg
   rw[t.l6,hn]at this
   cases this
 ·exact wR h2 (t.CU 0 hn) (h1 _ (by simp))
theorem cI{E:List Ed}{f g g':Nat->Bool}(h:dN E f g)(h':dN E f g'):g=g':=by
 funext x
 cases hg:g x
 ·cases hg':g' x
  ·rfl
  ·have:=h'.2.2 g h.2.1 h.1 x hg'
   rw[hg]at this;cases this
 ·exact(h.2.2 g' h'.2.1 h'.1 x hg).symm
theorem Mt{E:List Ed}{f f' g:Nat->Bool}(hf:∀ x,f x=f' x)(h:dN E f g):dN E f' g:=by
 have:f=f':=funext hf
 rw[<-this];exact h
def cZ(E:List Ed):List Nat:=(E.filter λe=>!e.2.2.2).map λe=>e.2.1
def onT(E:List Ed)(f:Nat->Bool):List Bool:=(cZ E).map f
theorem j9{E:List Ed}{f:Nat->Bool}{c x:Nat}(h:aB E f c x=true):x∈cZ E:=by
 unfold aB at h
 rw[List.any_eq_true]at h
 obtain⟨e,he,h⟩:=h
 simp only[Bool.and_eq_true,Bool.not_eq_true',decide_eq_true_eq]at h
 obtain⟨h1,_,_,h2⟩:=h
 unfold cZ
 rw[List.mem_map]
 exact⟨e,List.mem_filter.2 ⟨he,by simp[h1]⟩,h2.symm⟩
theorem mj{E:List Ed}{f f':Nat->Bool}{c c':Nat}(h:onT E (aB E f c)=onT E (aB E f' c')):aB E f c=aB E f' c':=by
 have key:∀ x,x∈cZ E->aB E f c x=aB E f' c' x:=by
  unfold onT at h
  intro x hx
  exact List.map_inj_left.1 h x hx
 funext x
 cases h1:aB E f c x
 ·cases h2:aB E f' c' x
  ·rfl
  ·have:=key x (j9 h2)
   rw[h1,h2]at this;exact this
 ·have:=key x (j9 h1)
  rw[h1]at this;exact this
def Mu(E:List Ed)(f0 g:Nat->Bool):Prop:=dN E f0 g\/∃ f c,dN E (aB E f c) g
theorem lx(E:List Ed)(f:Nat->Bool):(onT E f).length=(cZ E).length:=by simp[onT]
theorem GL{E:List Ed}{f0:Nat->Bool}(l:List (Nat->Bool))(hn:l.Nodup)(h:∀ g∈l,Mu E f0 g):l.length<=2 ^ (cZ E).length+1:=by
 refine rO (λ(g:Nat->Bool) (k:Nat)=>(k=0/\dN E f0 g)\/(0<k/\∃ f c,dN E (aB E f c) g/\k=bR (onT E (aB E f c))+1)) ?_ (2 ^ (cZ E).length+1) l hn ?_
 ·rintro x y k (⟨hk,hx⟩|⟨hk,f,c,hx,e⟩) (⟨hk',hy⟩|⟨hk',f',c',hy,e'⟩)
  ·exact cI hx hy
  ·omega
  ·omega
  ·have hb:bR (onT E (aB E f c))=bR (onT E (aB E f' c')):=by omega
   have:=j5 _ _ (by rw[lx,lx]) hb
   have:=mj this
   rw[this]at hx
   exact cI hx hy
 ·intro g hg
  rcases h g hg with hg|⟨f,c,hg⟩
  ·exact⟨0,Nat.succ_pos _,.inl ⟨rfl,hg⟩⟩
  ·have:=hP (onT E (aB E f c))
   rw[lx]at this
   exact⟨_,by omega,.inr ⟨by omega,f,c,hg,rfl⟩⟩
end
noncomputable section
def Rx.bg:Rx->Nat
 |.eps=>0
 |.set _=>1
 |.cat a b=>a.bg+b.bg
 |.alt a b=>a.bg+b.bg
 |.rep _ a=>a.bg
theorem eF(E E':List Ed):cZ (E++E')=cZ E++cZ E':=by unfold cZ;rw[List.filter_append,List.map_append]
theorem oX:∀ (t:Rx) (n:Nat),(cZ (t.ag n)).length=t.bg:=by
 intro t
 induction t with
 |eps=>intro n;rfl
 |set S=>intro n;rfl
 |cat a b iha ihb=>
  intro n
  simp only[Rx.ag,eF,List.length_append,iha,ihb,Rx.bg]
  rfl
 |alt a b iha ihb=>
  intro n
  simp only[Rx.ag,eF,List.length_append,iha,ihb,Rx.bg]
  rfl
 |rep k a ih=>
  intro n
  simp only[Rx.ag,eF,List.length_append,ih,Rx.bg]
  split <;> split <;> rfl
def OnO(i:Nat)(o:Option (Rx×Nat)):Prop:=∀ t j,o=some (t,j)->t.bg+i<=j
theorem GM{s:List Int}(hb:Bytes s){inner:Nat->Nat->Option (Rx×Nat)}{i d:Nat}(hin:OnO (i+1) (inner (i+1) (d+1))):OnO i (hY inner s i d):=by
 intro t j h
 unfold hY at h
 split at h
 ·cases h
 split at h
 ·injection h with h;injection h with h1 h2;subst h1;subst h2;simp only[Rx.bg];omega
 split at h
 ·injection h with h;injection h with h1 h2;subst h1;subst h2;simp only[Rx.bg];omega
 split at h
 ·have hr:=rS hb (show i<i+1 by omega) t j h
  rw[oR]at h
  unfold iZ at h
  split at h
  ·cases h
  rename_i l k hl
  generalize (if cG s (i+1) 94=true then λx=>!l x else l)=l' at h
  split at h
  ·cases h
  injection h with h
  injection h with h1 h2
  subst h1
  have:=hr.1
  simp only[Rx.bg];omega
 split at h
 ·split at h
  ·cases h
  split at h
  ·cases h
  rename_i t2 j2 hi2
  have:=hin _ _ hi2
  split at h
  ·injection h with h;injection h with h1 h2;subst h1;subst h2;omega
  ·cases h
 split at h
 ·cases h
 rename_i c n hrd
 obtain⟨h1,h2,h3⟩:=gn (hb.drop i) hrd
 injection h with h;injection h with h4 h5;subst h4;subst h5
 simp only[Rx.bg];omega
theorem GN{s:List Int}:∀ (m i0 i:Nat) (t0 t:Rx) (j:Nat),t0.bg+i0<=i->kz s m i t0=some (t,j)->t.bg+i0<=j:=by
 intro m
 induction m with
 |zero=>intro i0 i t0 t j _ h;cases h
 |succ m ih=>
  intro i0 i t0 t j hr h
  simp only[kz]at h
  split at h
  ·exact ih i0 (i+1) _ t j (by simp only[Rx.bg];omega) h
  ·injection h with h;injection h with h1 h2;subst h1;subst h2;exact hr
theorem yb{s:List Int}(hb:Bytes s){inner:Nat->Nat->Option (Rx×Nat)}{i d:Nat}(hin:OnO (i+1) (inner (i+1) (d+1))):OnO i (gk inner s i d):=by
 intro t j h
 unfold gk at h
 split at h
 ·cases h
 rename_i t0 i0 h0
 exact GN _ i i0 t0 t j (GM hb hin _ _ h0) h
theorem GO{s:List Int}(hb:Bytes s){inner:Nat->Nat->Option (Rx×Nat)}{d:Nat}(hin:∀ i d,OnO i (inner i d)):∀ (m i0 i:Nat) (t0 t:Rx) (j:Nat),t0.bg+i0<=i->kY inner s d m i t0=some (t,j)->t.bg+i0<=j:=by
 intro m
 induction m with
 |zero=>intro i0 i t0 t j _ h;cases h
 |succ m ih=>
  intro i0 i t0 t j hr h
  simp only[kY]at h
  split at h
  ·split at h
   ·cases h
   rename_i t2 j2 h2
   have:=yb hb (hin (i+1) (d+1)) _ _ h2
   exact ih i0 j2 _ t j (by simp only[Rx.bg];omega) h
  ·injection h with h;injection h with h1 h2;subst h1;subst h2;exact hr
theorem yc{s:List Int}(hb:Bytes s){inner:Nat->Nat->Option (Rx×Nat)}{i d:Nat}(hin:∀ i d,OnO i (inner i d)):OnO i (gy inner s i d):=by
 intro t j h
 unfold gy at h
 split at h
 ·cases h
 rename_i t0 i0 h0
 exact GO hb hin _ i i0 t0 t j (yb hb (hin (i+1) (d+1)) _ _ h0) h
theorem GP{s:List Int}(hb:Bytes s){inner:Nat->Nat->Option (Rx×Nat)}{d:Nat}(hin:∀ i d,OnO i (inner i d)):∀ (m i0 i:Nat) (t0 t:Rx) (j:Nat),t0.bg+i0<=i->kZ inner s d m i t0=some (t,j)->t.bg+i0<=j:=by
 intro m
 induction m with
 |zero=>intro i0 i t0 t j _ h;cases h
 |succ m ih=>
  intro i0 i t0 t j hr h
  simp only[kZ]at h
  split at h
  ·split at h
   ·cases h
   rename_i t2 j2 h2
   have:=yc hb hin _ _ h2
   exact ih i0 j2 _ t j (by simp only[Rx.bg];omega) h
  ·injection h with h;injection h with h1 h2;subst h1;subst h2;exact hr
theorem GQ{s:List Int}(hb:Bytes s):∀ (n i d:Nat),OnO i (fJ s n i d):=by
 intro n
 induction n with
 |zero=>intro i d t j h;cases h
 |succ n ih=>
  intro i d t j h
  simp only[fJ,us]at h
  split at h
  ·cases h
  rename_i t0 i0 h0
  exact GP hb ih _ i i0 t0 t j (yc hb ih _ _ h0) h
theorem HG{s:List Int}(hb:Bytes s){t:Rx}(h:cY s=.ok t):t.bg<=s.length:=by
 unfold cY at h
 split at h
 ·cases h
 split at h
 ·cases h
 rename_i t2 i ho
 have h1:=GQ hb _ _ _ _ _ ho
 obtain⟨_,h2,_,_⟩:=fu hb _ _ _ (by omega) _ _ ho
 split at h
 ·cases h
 split at h
 ·cases h
 injection h with h
 subst h
 omega
end
noncomputable section
def ml(S:List Int):Prop:=S=ofB (λ_=>true)\/∃ c:Int,S=ofB (l7 c)
def Rx.pw:Rx->Nat
 |.cat ..=>2
 |.alt ..=>2
 |_=>0
def Rx.cw:Rx->Nat
 |.alt ..=>2
 |_=>0
open Classical in
def Rx.wt:Rx->Nat
 |.eps=>1
 |.set S=>if ml S then 1 else 2
 |.cat a b=>a.wt+a.cw+(b.wt+b.pw)
 |.alt a b=>a.wt+(b.wt+b.cw)+1
 |.rep _ a=>a.wt+a.pw+1
theorem Rx.Jz:Rx.wt .eps=1:=by rw[Rx.wt]
theorem Rx.rY(a b:Rx):(Rx.cat a b).wt=a.wt+a.cw+(b.wt+b.pw):=by rw[Rx.wt]
theorem Rx.oY(a b:Rx):(Rx.alt a b).wt=a.wt+(b.wt+b.cw)+1:=by rw[Rx.wt]
theorem Rx.rZ(k:Int)(a:Rx):(Rx.rep k a).wt=a.wt+a.pw+1:=by rw[Rx.wt]
theorem Rx.JA(k:Int)(a:Rx):(Rx.rep k a).pw=0:=rfl
theorem Rx.Pa(a b:Rx):(Rx.cat a b).pw=2:=rfl
theorem Rx.Dq(a b:Rx):(Rx.cat a b).cw=0:=rfl
theorem Rx.JB(k:Int)(a:Rx):(Rx.rep k a).cw=0:=rfl
theorem Rx.JC(a b:Rx):(Rx.alt a b).cw=2:=rfl
theorem Rx.Mv:∀ t:Rx,t.pw<=2:=by intro t;cases t <;> simp[Rx.pw]
def Wo(i:Nat)(o:Option (Rx×Nat)):Prop:=∀ t j,o=some (t,j)->t.wt+i<=j
def WoP(i:Nat)(o:Option (Rx×Nat)):Prop:=∀ t j,o=some (t,j)->t.wt+t.pw+i<=j
def WoC(i:Nat)(o:Option (Rx×Nat)):Prop:=∀ t j,o=some (t,j)->t.wt+t.cw+i<=j
theorem GR{s:List Int}(hb:Bytes s){inner:Nat->Nat->Option (Rx×Nat)}{i d:Nat}(hin:Wo (i+1) (inner (i+1) (d+1))):WoP i (hY inner s i d):=by
 intro t j h
 unfold hY at h
 split at h
 ·cases h
 split at h
 ·injection h with h;injection h with h1 h2;subst h1;subst h2;simp only[Rx.wt,Rx.pw,if_pos (show ml (ofB λ_=>true)from .inl rfl)];omega
 split at h
 ·injection h with h;injection h with h1 h2;subst h1;subst h2;simp only[Rx.wt,Rx.pw];omega
 split at h
 ·have hr:=(rS hb (show i+1-1<i+1 by omega) t j h).1
  rw[oR]at h
  unfold iZ at h
  split at h
  ·cases h
  rename_i l k hl
  generalize (if cG s (i+1) 94=true then λx=>!l x else l)=l' at h
  split at h
  ·cases h
  injection h with h
  injection h with h1 h2
  subst h1
  have hk:=xW hb _ _ _ _ _ hl
  have hk2:i+1<=k:=by
   refine Nat.le_trans ?_ hk
   split <;> omega
  have hw:Rx.wt (.set (ofB l'))<=2:=by simp only[Rx.wt];split <;> omega
  simp only[Rx.pw]
  omega
 split at h
 ·split at h
  ·cases h
  split at h
  ·cases h
  rename_i t2 j2 hi2
  have:=hin _ _ hi2
  have:=t2.Mv
  split at h
  ·injection h with h;injection h with h1 h2;subst h1;subst h2;omega
  ·cases h
 split at h
 ·cases h
 rename_i c n hrd
 obtain⟨h1,h2,h3⟩:=gn (hb.drop i) hrd
 injection h with h;injection h with h4 h5;subst h4;subst h5
 simp only[Rx.wt,Rx.pw,if_pos (show ml (ofB (l7 c))from .inr ⟨c,rfl⟩)];omega
theorem GS{s:List Int}:∀ (m i0 i:Nat) (t0 t:Rx) (j:Nat),t0.wt+t0.pw+i0<=i->kz s m i t0=some (t,j)->t.wt+t.pw+i0<=j:=by
 intro m
 induction m with
 |zero=>intro i0 i t0 t j _ h;cases h
 |succ m ih=>
  intro i0 i t0 t j hr h
  simp only[kz]at h
  split at h
  ·exact ih i0 (i+1) _ t j (by rw[Rx.rZ,Rx.JA];omega) h
  ·injection h with h;injection h with h1 h2;subst h1;subst h2;exact hr
theorem yd{s:List Int}(hb:Bytes s){inner:Nat->Nat->Option (Rx×Nat)}{i d:Nat}(hin:Wo (i+1) (inner (i+1) (d+1))):WoP i (gk inner s i d):=by
 intro t j h
 unfold gk at h
 split at h
 ·cases h
 rename_i t0 i0 h0
 exact GS _ i i0 t0 t j (GR hb hin _ _ h0) h
theorem Mw(t:Rx):t.cw<=t.pw:=by cases t <;> simp[Rx.cw,Rx.pw]
theorem GU{s:List Int}(hb:Bytes s){inner:Nat->Nat->Option (Rx×Nat)}{d:Nat}(hin:∀ i d,Wo i (inner i d)):∀ (m i0 i:Nat) (t0 t:Rx) (j:Nat),t0.wt+t0.cw+i0<=i->kY inner s d m i t0=some (t,j)->t.wt+t.cw+i0<=j:=by
 intro m
 induction m with
 |zero=>intro i0 i t0 t j _ h;cases h
 |succ m ih=>
  intro i0 i t0 t j hr h
  simp only[kY]at h
  split at h
  ·split at h
   ·cases h
   rename_i t2 j2 h2
   have:=yd hb (hin (i+1) (d+1)) _ _ h2
   exact ih i0 j2 _ t j (by rw[Rx.rY,Rx.Dq];omega) h
  ·injection h with h;injection h with h1 h2;subst h1;subst h2;exact hr
theorem ye{s:List Int}(hb:Bytes s){inner:Nat->Nat->Option (Rx×Nat)}{i d:Nat}(hin:∀ i d,Wo i (inner i d)):WoC i (gy inner s i d):=by
 intro t j h
 unfold gy at h
 split at h
 ·cases h
 rename_i t0 i0 h0
 have h1:=yd hb (hin (i+1) (d+1)) _ _ h0
 have h2:=Mw t0
 exact GU hb hin _ i i0 t0 t j (by omega) h
theorem GV{s:List Int}(hb:Bytes s){inner:Nat->Nat->Option (Rx×Nat)}{d:Nat}(hin:∀ i d,Wo i (inner i d)):∀ (m i0 i:Nat) (t0 t:Rx) (j:Nat),t0.wt+i0<=i->kZ inner s d m i t0=some (t,j)->t.wt+i0<=j:=by
 intro m
 induction m with
 |zero=>intro i0 i t0 t j _ h;cases h
 |succ m ih=>
  intro i0 i t0 t j hr h
  simp only[kZ]at h
  split at h
  ·split at h
   ·cases h
   rename_i t2 j2 h2
   have:=ye hb hin _ _ h2
   exact ih i0 j2 _ t j (by rw[Rx.oY];omega) h
  ·injection h with h;injection h with h1 h2;subst h1;subst h2;exact hr
theorem GW{s:List Int}(hb:Bytes s):∀ (n i d:Nat),Wo i (fJ s n i d):=by
 intro n
 induction n with
 |zero=>intro i d t j h;cases h
 |succ n ih=>
  intro i d t j h
  simp only[fJ,us]at h
  split at h
  ·cases h
  rename_i t0 i0 h0
  have:=ye hb ih _ _ h0
  exact GV hb ih _ i i0 t0 t j (by omega) h
theorem As{s:List Int}(hb:Bytes s){t:Rx}(h:cY s=.ok t):t.wt<=s.length:=by
 unfold cY at h
 split at h
 ·cases h
 split at h
 ·cases h
 rename_i t2 i ho
 have h1:=GW hb _ _ _ _ _ ho
 obtain⟨_,h2,_,_⟩:=fu hb _ _ _ (by omega) _ _ ho
 split at h
 ·cases h
 split at h
 ·cases h
 injection h with h
 subst h
 omega
theorem Rx.dz:∀ t:Rx,t.bg<=t.wt:=by
 intro t
 induction t with
 |eps=>simp[Rx.bg]
 |set S=>simp only[Rx.bg,Rx.wt];split <;> omega
 |cat a b iha ihb=>rw[Rx.rY];simp only[Rx.bg];omega
 |alt a b iha ihb=>rw[Rx.oY];simp only[Rx.bg];omega
 |rep k a ih=>rw[Rx.rZ];simp only[Rx.bg];omega
end
noncomputable section
def Rx.lin:Rx->Bool
 |.eps=>true
 |.set _=>true
 |.cat a b=>a.lin&&b.lin
 |_=>false
def Rx.lf:Rx->Bool
 |.eps=>false
 |.set _=>true
 |.cat a _=>a.lf
 |.alt a _=>a.lf
 |.rep k a=>decide (k=6)&&a.lf
inductive Rx.Lq:Rx->Prop
 |rep {k:Int} {S:List Int} (hk:k≠6) (hS:ml S):Rx.Lq (.rep k (.set S))
 |cat {a:Rx} {S:List Int} (h:Rx.Lq a):Rx.Lq (.cat a (.set S))
theorem oZ:∀ t:Rx,t.wt<=t.bg->t.lf=true/\t.lin=true/\(t.pw=0->∃ S,ml S/\t=.set S):=by
 intro t
 induction t with
 |eps=>intro h;rw[Rx.Jz]at h;simp[Rx.bg]at h
 |set S=>
  intro h
  simp only[Rx.wt,Rx.bg]at h
  split at h
  ·rename_i hS;exact⟨rfl,rfl,λ_=>⟨S,hS,rfl⟩⟩
  ·omega
 |cat a b iha ihb=>
  intro h
  rw[Rx.rY]at h
  simp only[Rx.bg]at h
  have h1:=a.dz
  have h2:=b.dz
  obtain⟨i1,i2,_⟩:=iha (by omega)
  obtain⟨j1,j2,_⟩:=ihb (by omega)
  exact⟨i1,by simp[Rx.lin,i2,j2],λh=>by simp[Rx.pw]at h⟩
 |alt a b iha ihb=>
  intro h
  rw[Rx.oY]at h
  simp only[Rx.bg]at h
  have h1:=a.dz
  have h2:=b.dz
  omega
 |rep k a ih=>
  intro h
  rw[Rx.rZ]at h
  simp only[Rx.bg]at h
  have h1:=a.dz
  omega
theorem ny:∀ t:Rx,t.wt+t.cw<=t.bg+1->t.lin=true\/t.lf=true\/t.Lq:=by
 intro t
 induction t with
 |eps=>intro _;exact .inl rfl
 |set S=>intro _;exact .inl rfl
 |cat a b iha ihb=>
  intro h
  rw[Rx.rY,Rx.Dq]at h
  simp only[Rx.bg]at h
  have h1:=a.dz
  have h2:=b.dz
  by_cases ha:a.wt<=a.bg
  ·exact .inr (.inl (oZ a ha).1)
  ·obtain⟨_,j2,j3⟩:=oZ b (by omega)
   obtain⟨S,hS,rfl⟩:=j3 (by omega)
   rcases iha (by omega)with i|i|i
   ·exact .inl (by simp[Rx.lin,i])
   ·exact .inr (.inl i)
   ·exact .inr (.inr (.cat i))
 |alt a b iha ihb=>
  intro h
  rw[Rx.oY,Rx.JC]at h
  simp only[Rx.bg]at h
  have h1:=a.dz
  have h2:=b.dz
  omega
 |rep k a ih=>
  intro h
  rw[Rx.rZ,Rx.JB]at h
  simp only[Rx.bg]at h
  have h1:=a.dz
  obtain⟨i1,_,i3⟩:=oZ a (by omega)
  obtain⟨S,hS,rfl⟩:=i3 (by omega)
  by_cases hk:k=6
  ·exact .inr (.inl (by simp[Rx.lf,hk]))
  ·exact .inr (.inr (.rep hk hS))
theorem JD(t:Rx)(h:t.wt<=t.bg+1):t.lin=true\/t.lf=true\/t.Lq:=by
 cases t with
 |alt a b=>
  rw[Rx.oY]at h
  simp only[Rx.bg]at h
  have h1:=a.dz
  have h2:=b.dz
  exact .inr (.inl (oZ a (by omega)).1)
 |eps=>exact ny _ (by simpa [Rx.cw]using h)
 |set S=>exact ny _ (by simpa [Rx.cw]using h)
 |cat a b=>exact ny _ (by simpa [Rx.cw]using h)
 |rep k a=>exact ny _ (by simpa [Rx.cw]using h)
def Rx.lvl:Rx->Nat->Nat->Nat
 |.set _,n,q=>if q=n then 0 else 1
 |.cat a b,n,q=>if q<n+2*a.len then a.lvl n q else if q<n+2*(a.len+b.len)then a.bg+b.lvl (n+2*a.len) q else if q=n+2*(a.len+b.len)then 0 else a.bg+b.bg
 |_,_,_=>0
theorem Rx.r7:∀ (t:Rx) (n:Nat),t.lvl n (t.fst n)=0:=by
 intro t n
 have:=t.aQ
 cases t with
 |set S=>simp[Rx.lvl,Rx.fst,Rx.len]
 |cat a b=>
  have e:(Rx.cat a b).fst n=n+2*(a.len+b.len):=by simp only[Rx.fst,Rx.len];omega
  have ha:=a.aQ
  rw[e,Rx.lvl,if_neg (by omega),if_neg (by omega),if_pos rfl]
 |_=>rfl
theorem Rx.yf:∀ (t:Rx) (n:Nat),t.lin=true->t.lvl n (t.lst n)=t.bg:=by
 intro t n h
 have:=t.aQ
 cases t with
 |set S=>simp[Rx.lvl,Rx.lst,Rx.len,Rx.bg]
 |eps=>rfl
 |cat a b=>
  have e:(Rx.cat a b).lst n=n+2*(a.len+b.len)+1:=by simp only[Rx.lst,Rx.len];omega
  have ha:=a.aQ
  rw[e,Rx.lvl,if_neg (by omega),if_neg (by omega),if_neg (by omega),Rx.bg]
 |alt a b=>cases h
 |rep k a=>cases h
theorem Rx.uL:∀ (t:Rx) (n:Nat),t.lin=true->∀ e∈t.ag n,t.lvl n e.2.1=t.lvl n e.1+(if e.2.2.2=true then 0 else 1):=by
 intro t
 induction t with
 |eps=>intro n _ e he;simp[Rx.ag,fE]at he;subst he;simp[Rx.lvl]
 |set S=>intro n _ e he;simp[Rx.ag]at he;subst he;simp[Rx.lvl]
 |alt a b=>intro n h;cases h
 |rep k a=>intro n h;cases h
 |cat a b iha ihb=>
  intro n h e he
  simp only[Rx.lin,Bool.and_eq_true]at h
  have ha:=a.aQ
  have hb:=b.aQ
  simp only[Rx.ag,List.mem_append,List.mem_cons,List.not_mem_nil,or_false]at he
  rcases he with(he|he)|he|he|he
  ·have hi:=a.bU n e he
   simp only[Rx.lvl]
   rw[if_pos (by omega),if_pos (by omega),iha n h.1 e he]
  ·have hi:=b.bU _ e he
   simp only[Rx.lvl]
   rw[if_neg (by omega),if_pos (by omega),if_neg (by omega),if_pos (by omega),ihb _ h.2 e he]
   omega
  ·subst he
   have hi:=a.ky n
   have hz:=a.r7 n
   show(Rx.cat a b).lvl n (a.fst n)=(Rx.cat a b).lvl n (n+2*(a.len+b.len))+0
   simp only[Rx.lvl]
   rw[if_pos (show a.fst n<n+2*a.len by omega),if_neg (by omega),if_neg (by omega),if_true,hz]
  ·subst he
   have hi:=a.gR n
   have hi2:=b.ky (n+2*a.len)
   have hz:=a.yf n h.1
   have hz2:=b.r7 (n+2*a.len)
   show(Rx.cat a b).lvl n (b.fst (n+2*a.len))=(Rx.cat a b).lvl n (a.lst n)+0
   simp only[Rx.lvl]
   rw[if_neg (show ¬b.fst (n+2*a.len)<n+2*a.len by omega),if_pos (by omega),if_pos (by omega),hz,hz2]
  ·subst he
   have hi2:=b.gR (n+2*a.len)
   have hz2:=b.yf (n+2*a.len) h.2
   show(Rx.cat a b).lvl n (n+2*(a.len+b.len)+1)=(Rx.cat a b).lvl n (b.lst (n+2*a.len))+0
   simp only[Rx.lvl]
   rw[if_neg (by omega),if_neg (by omega),if_neg (by omega),if_neg (show ¬b.lst (n+2*a.len)<n+2*a.len by omega),if_pos (by omega),hz2]
   omega
theorem Rx.yh:∀ (t:Rx) (n:Nat),t.lin=true->∀ x∈cZ (t.ag n),0<t.lvl n x/\t.lvl n x<=t.bg/\∀ y∈cZ (t.ag n),t.lvl n x=t.lvl n y->x=y:=by
 intro t
 induction t with
 |eps=>intro n _ x hx;simp[Rx.ag,cZ,fE]at hx
 |set S=>
  intro n _ x hx
  simp[Rx.ag,cZ]at hx
  subst hx
  refine⟨by simp[Rx.lvl],by simp[Rx.lvl,Rx.bg],λy hy _=>?_⟩
  simp[Rx.ag,cZ]at hy
  exact hy.symm
 |alt a b=>intro n h;cases h
 |rep k a=>intro n h;cases h
 |cat a b iha ihb=>
  intro n h x hx
  simp only[Rx.lin,Bool.and_eq_true]at h
  have ha:=a.aQ
  have hb:=b.aQ
  have hin:∀ (t:Rx) (m x:Nat),x∈cZ (t.ag m)->m<=x/\x<m+2*t.len:=by
   intro t m x hx
   unfold cZ at hx
   obtain⟨e,he,rfl⟩:=List.mem_map.1 hx
   have:=t.bU m e (List.mem_filter.1 he).1
   omega
  have hT:cZ ((Rx.cat a b).ag n)=cZ (a.ag n)++cZ (b.ag (n+2*a.len)):=by
   simp only[Rx.ag,eF]
   simp[cZ,fE]
  have la:∀ x,x∈cZ (a.ag n)->(Rx.cat a b).lvl n x=a.lvl n x:=λx hx=>by
   have:=hin a n x hx
   rw[Rx.lvl,if_pos (by omega)]
  have lb:∀ x,x∈cZ (b.ag (n+2*a.len))->(Rx.cat a b).lvl n x=a.bg+b.lvl (n+2*a.len) x:=λx hx=>by
   have:=hin b _ x hx
   rw[Rx.lvl,if_neg (by omega),if_pos (by omega)]
  rw[hT]at hx |-
  simp only[Rx.bg]
  rcases List.mem_append.1 hx with hx|hx
  ·obtain⟨q1,q2,q3⟩:=iha n h.1 x hx
   rw[la x hx]
   refine⟨q1,by omega,λy hy hxy=>?_⟩
   rcases List.mem_append.1 hy with hy|hy
   ·rw[la y hy]at hxy;exact q3 y hy hxy
   ·rw[lb y hy]at hxy
    have:=(ihb _ h.2 y hy).1
    omega
  ·obtain⟨q1,q2,q3⟩:=ihb _ h.2 x hx
   rw[lb x hx]
   refine⟨by omega,by omega,λy hy hxy=>?_⟩
   rcases List.mem_append.1 hy with hy|hy
   ·rw[la y hy]at hxy
    have:=(iha n h.1 y hy).2.1
    omega
   ·rw[lb y hy]at hxy;exact q3 y hy (by omega)
def Rx.pre:Rx->Nat->Nat->Bool
 |.eps,n,q=>decide (q=n)
 |.set _,n,q=>decide (q=n)
 |.cat a b,n,q=>decide (q=n+2*(a.len+b.len))||a.pre n q
 |.alt a b,n,q=>decide (q=n+2*(a.len+b.len))||a.pre n q
 |.rep k a,n,q=>decide (q=n+2*a.len)||(decide (k=6)&&a.pre n q)
theorem Rx.kA:∀ (t:Rx) (n q:Nat),t.pre n q=true->n<=q/\q<n+2*t.len:=by
 intro t
 induction t with
 |eps=>intro n q h;simp only[Rx.pre,decide_eq_true_eq]at h;simp only[Rx.len];omega
 |set S=>intro n q h;simp only[Rx.pre,decide_eq_true_eq]at h;simp only[Rx.len];omega
 |cat a b iha ihb=>
  intro n q h
  simp only[Rx.pre,Bool.or_eq_true,decide_eq_true_eq]at h
  simp only[Rx.len]
  rcases h with h|h
  ·omega
  ·have:=iha n q h;omega
 |alt a b iha ihb=>
  intro n q h
  simp only[Rx.pre,Bool.or_eq_true,decide_eq_true_eq]at h
  simp only[Rx.len]
  rcases h with h|h
  ·omega
  ·have:=iha n q h;omega
 |rep k a ih=>
  intro n q h
  simp only[Rx.pre,Bool.or_eq_true,Bool.and_eq_true,decide_eq_true_eq]at h
  simp only[Rx.len]
  rcases h with h|h
  ·omega
  ·have:=ih n q h.2;omega
theorem Rx.Dr:∀ (t:Rx) (n:Nat),∀ e∈t.ag n,t.pre n e.2.1=true->e.2.2.2=true/\t.pre n e.1=true:=by
 intro t
 induction t with
 |eps=>intro n e he h;simp[Rx.ag,fE]at he;subst he;simp[Rx.pre]at h
 |set S=>intro n e he h;simp[Rx.ag]at he;subst he;simp[Rx.pre]at h
 |cat a b iha ihb=>
  intro n e he h
  have ha:=a.aQ
  have hb:=b.aQ
  simp only[Rx.ag,List.mem_append,List.mem_cons,List.not_mem_nil,or_false]at he
  simp only[Rx.pre,Bool.or_eq_true,decide_eq_true_eq]at h |-
  rcases he with(he|he)|he|he|he
  ·have hi:=a.bU n e he
   obtain⟨q1,q2⟩:=iha n e he (h.resolve_left (by omega))
   exact⟨q1,.inr q2⟩
  ·have hi:=b.bU _ e he
   rcases h with h|h
   ·omega
   ·have:=a.kA n _ h;omega
  ·subst he;exact⟨rfl,.inl rfl⟩
  ·subst he
   have hi:=b.ky (n+2*a.len)
   rcases h with h|h
   ·simp only[fE]at h;omega
   ·have:=a.kA n _ h;simp only[fE]at this;omega
  ·subst he
   rcases h with h|h
   ·simp only[fE]at h;omega
   ·have:=a.kA n _ h;simp only[fE]at this;omega
 |alt a b iha ihb=>
  intro n e he h
  have ha:=a.aQ
  have hb:=b.aQ
  simp only[Rx.ag,List.mem_append,List.mem_cons,List.not_mem_nil,or_false]at he
  simp only[Rx.pre,Bool.or_eq_true,decide_eq_true_eq]at h |-
  rcases he with(he|he)|he|he|he|he
  ·have hi:=a.bU n e he
   obtain⟨q1,q2⟩:=iha n e he (h.resolve_left (by omega))
   exact⟨q1,.inr q2⟩
  ·have hi:=b.bU _ e he
   rcases h with h|h
   ·omega
   ·have:=a.kA n _ h;omega
  ·subst he;exact⟨rfl,.inl rfl⟩
  ·subst he
   rcases h with h|h
   ·simp only[fE]at h;omega
   ·have:=a.kA n _ h;simp only[fE]at this;omega
  ·subst he;exact⟨rfl,.inl rfl⟩
  ·subst he
   rcases h with h|h
   ·simp only[fE]at h;omega
   ·have:=a.kA n _ h;simp only[fE]at this;omega
 |rep k a ih=>
  intro n e he h
  have ha:=a.aQ
  simp only[Rx.ag,List.mem_append,List.mem_cons,List.not_mem_nil,or_false]at he
  simp only[Rx.pre,Bool.or_eq_true,Bool.and_eq_true,decide_eq_true_eq]at h |-
  rcases he with((he|he|he)|he)|he
  ·have hi:=a.bU n e he
   have h:=h.resolve_left (by omega)
   obtain⟨q1,q2⟩:=ih n e he h.2
   exact⟨q1,.inr ⟨h.1,q2⟩⟩
  ·subst he;exact⟨rfl,.inl rfl⟩
  ·subst he
   rcases h with h|h
   ·simp only[fE]at h;omega
   ·have:=a.kA n _ h.2;simp only[fE]at this;omega
  ·split at he
   ·simp at he
   ·rename_i hk
    simp only[List.mem_singleton]at he
    subst he
    rcases h with h|h
    ·have:=a.ky n;simp only[fE]at h;omega
    ·exact absurd h.1 hk
  ·split at he
   ·simp at he
   ·simp only[List.mem_singleton]at he
    subst he
    exact⟨rfl,.inl rfl⟩
theorem Rx.Ds:∀ (t:Rx) (n:Nat),t.lf=true->∃ r,cZ (t.ag n)=(n+1)::r/\t.pre n n=true/\∀ e∈t.ag n,e.2.2.2=false->e.2.1=n+1->e.1=n:=by
 intro t
 induction t with
 |eps=>intro n h;cases h
 |set S=>intro n _;exact⟨[],rfl,by simp[Rx.pre],λe he _ _=>by simp[Rx.ag]at he;subst he;rfl⟩
 |cat a b iha ihb=>
  intro n h
  have ha:=a.aQ
  obtain⟨r,q1,q2,q3⟩:=iha n h
  refine⟨r++cZ (b.ag (n+2*a.len)),?_,by simp[Rx.pre,q2],λe he hf ht=>?_⟩
  ·simp only[Rx.ag,eF,q1];simp[cZ,fE]
  ·simp only[Rx.ag,List.mem_append,List.mem_cons,List.not_mem_nil,or_false]at he
   rcases he with(he|he)|he|he|he
   ·exact q3 e he hf ht
   ·have:=b.bU _ e he;omega
   all_goals (subst he;cases hf)
 |alt a b iha ihb=>
  intro n h
  have ha:=a.aQ
  obtain⟨r,q1,q2,q3⟩:=iha n h
  refine⟨r++cZ (b.ag (n+2*a.len)),?_,by simp[Rx.pre,q2],λe he hf ht=>?_⟩
  ·simp only[Rx.ag,eF,q1];simp[cZ,fE]
  ·simp only[Rx.ag,List.mem_append,List.mem_cons,List.not_mem_nil,or_false]at he
   rcases he with(he|he)|he|he|he|he
   ·exact q3 e he hf ht
   ·have:=b.bU _ e he;omega
   all_goals (subst he;cases hf)
 |rep k a ih=>
  intro n h
  simp only[Rx.lf,Bool.and_eq_true,decide_eq_true_eq]at h
  obtain⟨rfl,h⟩:=h
  obtain⟨r,q1,q2,q3⟩:=ih n h
  refine⟨r,?_,by simp[Rx.pre,q2],λe he hf ht=>?_⟩
  ·simp only[Rx.ag,eF,q1];simp[cZ,fE]
  ·simp only[Rx.ag,List.mem_append,List.mem_cons,List.not_mem_nil,or_false]at he
   rcases he with((he|he|he)|he)|he
   ·exact q3 e he hf ht
   ·subst he;cases hf
   ·subst he;cases hf
   ·simp at he
   ·simp at he;subst he;cases hf
end
noncomputable section
inductive Rch(t:Rx):(Nat->Bool)->Prop
 |ini {g:Nat->Bool} (h:dN (t.ag 0) (λx=>decide (x=t.fst 0)) g):Rch t g
 |step {f g:Nat->Bool} {c:Nat} (hc:c<256) (hf:Rch t f) (h:dN (t.ag 0) (aB (t.ag 0) f c) g):Rch t g
theorem cV{E:List Ed}{f:Nat->Bool}{c x:Nat}:aB E f c x=true↔∃ e∈E,e.2.2.2=false/\f e.1=true/\hasB e.2.2.1 c=true/\x=e.2.1:=by
 unfold aB
 rw[List.any_eq_true]
 simp only[Bool.and_eq_true,Bool.not_eq_true',decide_eq_true_eq]
theorem Rch.Pb{t:Rx}{g:Nat->Bool}(h:Rch t g):Mu (t.ag 0) (λx=>decide (x=t.fst 0)) g:=by
 cases h with
 |ini h=>exact .inl h
 |step _ _ h=>exact .inr ⟨_,_,h⟩
theorem Rch.lvl{t:Rx}(hl:t.lin=true){g:Nat->Bool}(h:Rch t g):∃ m,∀ q,g q=true->t.lvl 0 q=m:=by
 have clo:∀ m,iP (t.ag 0) (λq=>decide (t.lvl 0 q=m)):=by
  intro m e he hf h
  have:=t.uL 0 hl e he
  rw[hf]at this
  simp only[decide_eq_true_eq]at h |-
  simp at this
  omega
 induction h with
 |ini h=>
  refine⟨0,λq hq=>?_⟩
  have:=h.2.2 _ (clo 0) (λx hx=>by
   rw[decide_eq_true_eq]at hx
   subst hx
   simpa using t.r7 0) q hq
  simpa using this
 |step hc hf h ih=>
  obtain⟨m,ih⟩:=ih
  refine⟨m+1,λq hq=>?_⟩
  have:=h.2.2 _ (clo (m+1)) (λx hx=>by
   obtain⟨e,he,h1,h2,_,rfl⟩:=cV.1 hx
   have:=t.uL 0 hl e he
   rw[h1,ih _ h2]at this
   simpa using this) q hq
  simpa using this
theorem Dt{t:Rx}(hl:t.lin=true)(l:List (Nat->Bool))(hn:l.Nodup)(h:∀ g∈l,Rch t g):l.length<=t.bg+3:=by
 refine rO (λ(g:Nat->Bool) (k:Nat)=>(k=0/\dN (t.ag 0) (λx=>decide (x=t.fst 0)) g)\/(k=1/\dN (t.ag 0) (λ_=>false) g)\/
  (∃ f x,dN (t.ag 0) f g/\x∈cZ (t.ag 0)/\(∀ y,f y=true↔y=x)/\k=t.lvl 0 x+2)) ?_ (t.bg+3) l hn ?_
 ·rintro a b k (⟨rfl,h1⟩|⟨rfl,h1⟩|⟨f,x,h1,h2,h3,rfl⟩) (⟨e,g1⟩|⟨e,g1⟩|⟨f',x',g1,g2,g3,e⟩)
  ·exact cI h1 g1
  ·omega
  ·omega
  ·omega
  ·exact cI h1 g1
  ·omega
  ·omega
  ·omega
  ·have:x=x':=(t.yh 0 hl x h2).2.2 x' g2 (by omega)
   subst this
   have:f=f':=by
    funext y
    rw[Bool.eq_iff_iff,h3,g3]
   rw[this]at h1
   exact cI h1 g1
 ·intro g hg
  have hr:=h g hg
  cases hr with
  |ini h=>exact⟨0,by omega,.inl ⟨rfl,h⟩⟩
  | @step f g c hc hf h=>
   by_cases hx:∃ x,aB (t.ag 0) f c x=true
   ·obtain⟨x,hx⟩:=hx
    have hxt:=j9 hx
    have hb:=t.yh 0 hl x hxt
    refine⟨t.lvl 0 x+2,by omega,.inr (.inr ⟨_,x,h,hxt,λy=>⟨λhy=>?_,λe=>e ▸ hx⟩,rfl⟩)⟩
    obtain⟨m,hm⟩:=(Rch.step hc hf h).lvl hl
    have e1:=hm _ (h.1 _ hx)
    have e2:=hm _ (h.1 _ hy)
    exact(hb.2.2 y (j9 hy) (by omega)).symm
   ·refine⟨1,by omega,.inr (.inl ⟨rfl,?_⟩)⟩
    have:aB (t.ag 0) f c=λ_=>false:=by
     funext x
     cases hs:aB (t.ag 0) f c x
     ·rfl
     ·exact absurd ⟨x,hs⟩ hx
    rw[this]at h
    exact h
theorem uM{t:Rx}{f g:Nat->Bool}{c:Nat}(h:dN (t.ag 0) (aB (t.ag 0) f c) g):∀ q,t.pre 0 q=true->g q=false:=by
 intro q hq
 have:=h.2.2 (λq=>!t.pre 0 q) (λe he hf hp=>by
  simp only[Bool.not_eq_true']at hp |-
  cases hc:t.pre 0 e.2.1
  ·rfl
  ·rw[(t.Dr 0 e he hc).2]at hp;cases hp) (λx hx=>by
  obtain⟨e,he,h1,_,_,rfl⟩:=cV.1 hx
  simp only[Bool.not_eq_true']
  cases hc:t.pre 0 e.2.1
  ·rfl
  ·rw[(t.Dr 0 e he hc).1]at h1;cases h1) q
 cases hg:g q
 ·rfl
 ·have:=this hg
  simp[hq]at this
theorem Mx{t:Rx}(hl:t.lf=true)(l:List (Nat->Bool))(hn:l.Nodup)(h:∀ g∈l,Rch t g):l.length<=257+2 ^ (t.bg-1):=by
 obtain⟨r,q1,q2,q3⟩:=t.Ds 0 hl
 have hrl:r.length=t.bg-1:=by
  have:=oX t 0
  rw[q1]at this
  simp at this
  omega
 refine rO (λ(g:Nat->Bool) (k:Nat)=>(k=0/\dN (t.ag 0) (λx=>decide (x=t.fst 0)) g)\/(∃ c f,c<256/\dN (t.ag 0) (λx=>decide (x=t.fst 0)) f/\dN (t.ag 0) (aB (t.ag 0) f c) g/\k=1+c)\/
  (∃ f c,dN (t.ag 0) (aB (t.ag 0) f c) g/\aB (t.ag 0) f c 1=false/\k=257+bR (r.map (aB (t.ag 0) f c)))) ?_ (257+2 ^ (t.bg-1)) l hn ?_
 ·rintro a b k (⟨rfl,h1⟩|⟨c,f,hc,h0,h1,rfl⟩|⟨f,c,h1,h2,rfl⟩) (⟨e,g1⟩|⟨c',f',hc',g0,g1,e⟩|⟨f',c',g1,g2,e⟩)
  ·exact cI h1 g1
  ·omega
  ·omega
  ·omega
  ·have:c=c':=by omega
   subst this
   rw[cI h0 g0]at h1
   exact cI h1 g1
  ·omega
  ·omega
  ·omega
  ·have hb:=j5 (r.map (aB (t.ag 0) f c)) (r.map (aB (t.ag 0) f' c')) (by simp) (by omega)
   have:onT (t.ag 0) (aB (t.ag 0) f c)=onT (t.ag 0) (aB (t.ag 0) f' c'):=by
    unfold onT
    rw[q1]
    simp only[List.map_cons,Nat.zero_add]
    rw[h2,g2,hb]
   rw[mj this]at h1
   exact cI h1 g1
 ·intro g hg
  have hr:=h g hg
  cases hr with
  |ini h=>exact⟨0,by have:=Nat.zero_le (2 ^ (t.bg-1));omega,.inl ⟨rfl,h⟩⟩
  | @step f g c hc hf h=>
   cases hf with
   |ini h0=>exact⟨1+c,by have:=Nat.zero_le (2 ^ (t.bg-1));omega,.inr (.inl ⟨c,f,hc,h0,h,rfl⟩)⟩
   | @step f0 f c0 hc0 hf0 h0=>
    have hb:=hP (r.map (aB (t.ag 0) f c))
    rw[List.length_map,hrl]at hb
    refine⟨_,?_,.inr (.inr ⟨f,c,h,?_,rfl⟩)⟩
    ·omega
    ·cases hs:aB (t.ag 0) f c 1
     ·rfl
     ·obtain⟨e,he,h1,h2,_,h3⟩:=cV.1 hs
      rw[q3 e he h1 (by omega),uM h0 0 q2]at h2
      cases h2
def Bq(k:Int)(S0 S1 S2:List Int):Rx:=.cat (.cat (.rep k (.set S0)) (.set S1)) (.set S2)
theorem dO{k:Int}(hk:k≠6){S0 S1 S2:List Int}{e:Ed}:e∈(Bq k S0 S1 S2).ag 0↔e=(0,1,S0,false)\/e=fE 2 0\/e=fE 1 3\/e=fE 1 0\/(k≠5/\e=fE 2 3)\/e=(4,5,S1,false)\/e=fE 6 2\/e=fE 3 4\/e=fE 5 7\/e=(8,9,S2,false)\/e=fE 10 6\/e=fE 7 8\/e=fE 9 11:=by
 by_cases h5:k=5
 ·simp[Bq,Rx.ag,Rx.len,Rx.fst,Rx.lst,hk,h5,or_assoc]
 ·simp[Bq,Rx.ag,Rx.len,Rx.fst,Rx.lst,hk,h5,or_assoc]
structure LqB(t:Rx)(k:Int)(S0 S1 S2:List Int):Prop where
 hk:k≠6
 sm:ml S0
 tg:∃ r,cZ (t.ag 0)=1::5::9::r
 ed:∀ e∈t.ag 0,e.2.1<12->e.2.1≠10->e∈(Bq k S0 S1 S2).ag 0
 sub:∀ e∈(Bq k S0 S1 S2).ag 0,e∈t.ag 0
 len:6<=t.len
 p2:t.pre 0 2=true
 c8:t.cl 0 8=false
 nl:t.null=false
theorem Lq.bot{t:Rx}(h:t.Lq)(h3:3<=t.bg):∃ k S0 S1 S2,LqB t k S0 S1 S2:=by
 induction h with
 |rep hk hS=>simp[Rx.bg]at h3
 | @cat a S ha ih=>
  by_cases h3':3<=a.bg
  ·obtain⟨k,S0,S1,S2,b⟩:=ih h3'
   obtain⟨r,hr⟩:=b.tg
   have hl:=b.len
   refine⟨k,S0,S1,S2,b.hk,b.sm,⟨r++cZ ((Rx.set S).ag (0+2*a.len)),?_⟩,λe he h1 h2=>?_,λe he=>?_,?_,?_,?_,?_⟩
   ·simp only[Rx.ag,eF,hr];simp[cZ,fE]
   ·simp only[Rx.ag,List.mem_append,List.mem_cons,List.not_mem_nil,or_false]at he
    rcases he with(he|he)|he|he|he
    ·exact b.ed e he h1 h2
    ·subst he;simp at h1;omega
    ·subst he;simp only[fE,Rx.fst]at h1 h2;omega
    ·subst he;simp only[fE,Rx.fst,Rx.len]at h1 h2;omega
    ·subst he;simp only[fE,Rx.len]at h1 h2;omega
   ·simp only[Rx.ag,List.mem_append]
    exact .inl (.inl (b.sub e he))
   ·simp only[Rx.len];omega
   ·simp only[Rx.pre,b.p2,Bool.or_true]
   ·simp only[Rx.cl,b.c8,b.nl,Rx.len,Rx.null]
    simp
    omega
   ·simp[Rx.null]
  ·cases ha with
   |rep hk hS=>simp[Rx.bg]at h3
   | @cat a' S' ha'=>
    cases ha' with
    | @rep k S0 hk hS=>
     refine⟨k,S0,S',S,hk,hS,⟨[],?_⟩,λe he _ _=>he,λe he=>he,by simp[Rx.len],by simp[Rx.pre,Rx.len],by simp[Rx.cl,Rx.len,Rx.null],by simp[Rx.null]⟩
     simp only[Rx.ag,eF]
     by_cases h5:k=5 <;> simp[cZ,fE,Rx.len,hk,h5]
    |cat h=>
     exfalso
     cases h <;> simp[Rx.bg]at h3' h3 <;> omega
section
variable {t:Rx} {k:Int} {S0 S1 S2:List Int}
theorem LqB.at1(b:LqB t k S0 S1 S2){h:Nat->Bool}{c:Nat}(hs:aB (t.ag 0) h c 1=true):h 0=true/\hasB S0 c=true:=by
 obtain⟨e,he,h1,h2,h3,h4⟩:=cV.1 hs
 have:=b.ed e he (by omega) (by omega)
 rw[dO b.hk]at this
 rcases this with rfl|rfl|rfl|rfl|⟨_,rfl⟩|rfl|rfl|rfl|rfl|rfl|rfl|rfl|rfl <;> simp[fE]at h1 h4
 exact⟨h2,h3⟩
theorem LqB.at5(b:LqB t k S0 S1 S2){h:Nat->Bool}{c:Nat}(hs:aB (t.ag 0) h c 5=true):h 4=true/\hasB S1 c=true:=by
 obtain⟨e,he,h1,h2,h3,h4⟩:=cV.1 hs
 have:=b.ed e he (by omega) (by omega)
 rw[dO b.hk]at this
 rcases this with rfl|rfl|rfl|rfl|⟨_,rfl⟩|rfl|rfl|rfl|rfl|rfl|rfl|rfl|rfl <;> simp[fE]at h1 h4
 exact⟨h2,h3⟩
theorem LqB.at9(b:LqB t k S0 S1 S2){h:Nat->Bool}{c:Nat}(hs:aB (t.ag 0) h c 9=true):h 8=true:=by
 obtain⟨e,he,h1,h2,h3,h4⟩:=cV.1 hs
 have:=b.ed e he (by omega) (by omega)
 rw[dO b.hk]at this
 rcases this with rfl|rfl|rfl|rfl|⟨_,rfl⟩|rfl|rfl|rfl|rfl|rfl|rfl|rfl|rfl <;> simp[fE]at h1 h4
 exact h2
theorem LqB.no(b:LqB t k S0 S1 S2){h:Nat->Bool}{c q:Nat}(hq:q=0\/q=3\/q=4\/q=7\/q=8):aB (t.ag 0) h c q=false:=by
 cases hs:aB (t.ag 0) h c q
 ·rfl
 ·exfalso
  obtain⟨e,he,h1,h2,h3,h4⟩:=cV.1 hs
  have:=b.ed e he (by omega) (by omega)
  rw[dO b.hk]at this
  rcases this with rfl|rfl|rfl|rfl|⟨_,rfl⟩|rfl|rfl|rfl|rfl|rfl|rfl|rfl|rfl <;> simp[fE]at h1 h4 <;> omega
theorem LqB.free(b:LqB t k S0 S1 S2){e:Ed}(he:e∈t.ag 0)(hf:e.2.2.2=true)(hq:e.2.1<10):e.2.1=0/\(e.1=1\/e.1=2)\/e.2.1=3/\(e.1=1\/e.1=2)\/e.2.1=2\/e.2.1=6\/e.2.1=4/\e.1=3\/e.2.1=7/\e.1=5\/e.2.1=8/\e.1=7:=by
 have:=b.ed e he (by omega) (by omega)
 rw[dO b.hk]at this
 rcases this with rfl|rfl|rfl|rfl|⟨_,rfl⟩|rfl|rfl|rfl|rfl|rfl|rfl|rfl|rfl <;> simp[fE]at hf hq |-
theorem LqB.r8(b:LqB t k S0 S1 S2){h f:Nat->Bool}{c:Nat}(hc:dN (t.ag 0) (aB (t.ag 0) f c) h)(h8:h 8=true):aB (t.ag 0) f c 5=true:=by
 cases h5:aB (t.ag 0) f c 5
 ·exfalso
  have:=hc.2.2 (λq=>!(decide (q=5)||(decide (q=7)||decide (q=8)))) (λe he hf hd=>by
   cases hx:(decide (e.2.1=5)||(decide (e.2.1=7)||decide (e.2.1=8)))
   ·show(!_)=true
    rw[hx];rfl
   ·exfalso
    simp only[Bool.or_eq_true,decide_eq_true_eq]at hx
    have:=b.free he hf (by omega)
    simp at hd
    omega) (λx hx=>by
   cases hy:(decide (x=5)||(decide (x=7)||decide (x=8)))
   ·show(!_)=true
    rw[hy];rfl
   ·exfalso
    simp only[Bool.or_eq_true,decide_eq_true_eq]at hy
    rcases hy with rfl|rfl|rfl
    ·rw[h5]at hx;cases hx
    ·rw[b.no (by omega)]at hx;cases hx
    ·rw[b.no (by omega)]at hx;cases hx) 8 h8
  simp at this
 ·rfl
theorem LqB.r1(b:LqB t k S0 S1 S2){h f:Nat->Bool}{c:Nat}(hc:dN (t.ag 0) (aB (t.ag 0) f c) h)(h8:h 4=true\/h 0=true):aB (t.ag 0) f c 1=true:=by
 cases h5:aB (t.ag 0) f c 1
 ·exfalso
  have hp:=uM hc 2 b.p2
  have key:=hc.2.2 (λq=>h q&&!(decide (q=1)||(decide (q=3)||(decide (q=4)||decide (q=0))))) (λe he hf hd=>by
   simp only[Bool.and_eq_true]at hd |-
   refine⟨hc.2.1 e he hf hd.1,?_⟩
   cases hx:(decide (e.2.1=1)||(decide (e.2.1=3)||(decide (e.2.1=4)||decide (e.2.1=0))))
   ·rfl
   ·exfalso
    simp only[Bool.or_eq_true,decide_eq_true_eq]at hx
    have:=b.free he hf (by omega)
    have h2:e.1≠2:=λe2=>by have h1:=hd.1;rw[e2,hp]at h1;cases h1
    have h3:=hd.2
    simp at h3
    omega) (λx hx=>by
   simp only[Bool.and_eq_true]
   refine⟨hc.1 x hx,?_⟩
   cases hy:(decide (x=1)||(decide (x=3)||(decide (x=4)||decide (x=0))))
   ·rfl
   ·exfalso
    simp only[Bool.or_eq_true,decide_eq_true_eq]at hy
    rcases hy with rfl|rfl|rfl|rfl
    ·rw[h5]at hx;cases hx
    ·rw[b.no (by omega)]at hx;cases hx
    ·rw[b.no (by omega)]at hx;cases hx
    ·rw[b.no (by omega)]at hx;cases hx)
  rcases h8 with h8|h8
  ·have:=key 4 h8;simp at this
  ·have:=key 0 h8;simp at this
 ·rfl
theorem LqB.yi(b:LqB t k S0 S1 S2){h:Nat->Bool}(hr:Rch t h)(h8:h 8=true):∃ f c,c<256/\dN (t.ag 0) (aB (t.ag 0) f c) h:=by
 cases hr with
 |ini hi=>
  exfalso
  have:=hi.2.2 (t.cl 0) (λe he hf hp=>t.xP 0 e he hf hp) (λx hx=>by
   rw[decide_eq_true_eq]at hx
   rw[hx];exact t.jH 0) 8 h8
  rw[b.c8]at this
  cases this
 |step hc _ hi=>exact⟨_,_,hc,hi⟩
theorem LqB.X(b:LqB t k S0 S1 S2){h:Nat->Bool}(hr:Rch t h){c:Nat}(hc:c<256)(h1:aB (t.ag 0) h c 1=false)(h5:aB (t.ag 0) h c 5=true)(h9:aB (t.ag 0) h c 9=true):hasB S0 c=false:=by
 obtain⟨f,c',hc',hi⟩:=b.yi hr (b.at9 h9)
 have f1:=b.r1 hi (.inl (b.at5 h5).1)
 have g1:=hi.1 _ f1
 have g0:=hi.2.1 (fE 1 0) (b.sub _ ((dO b.hk).2 (by simp))) rfl g1
 cases hs:hasB S0 c
 ·rfl
 ·have:aB (t.ag 0) h c 1=true:=cV.2 ⟨(0,1,S0,false),b.sub _ ((dO b.hk).2 (by simp)),rfl,g0,hs,rfl⟩
  rw[h1]at this;cases this
theorem LqB.Y(b:LqB t k S0 S1 S2){h:Nat->Bool}(hr:Rch t h){c:Nat}(hc:c<256)(h1:aB (t.ag 0) h c 1=true)(h5:aB (t.ag 0) h c 5=false)(h9:aB (t.ag 0) h c 9=true):∃ d d',d<256/\d' < 256/\d≠d'/\hasB S0 d=true/\hasB S0 d'=true:=by
 obtain⟨f,c',hc',hi⟩:=b.yi hr (b.at9 h9)
 have f5:=b.r8 hi (b.at9 h9)
 have f1:=b.r1 hi (.inr (b.at1 h1).1)
 have g1:=hi.1 _ f1
 have g3:=hi.2.1 (fE 1 3) (b.sub _ ((dO b.hk).2 (by simp))) rfl g1
 have g4:=hi.2.1 (fE 3 4) (b.sub _ ((dO b.hk).2 (by simp))) rfl g3
 refine⟨c,c',hc,hc',?_,(b.at1 h1).2,(b.at1 f1).2⟩
 rintro rfl
 have:aB (t.ag 0) h c 5=true:=cV.2 ⟨(4,5,S1,false),b.sub _ ((dO b.hk).2 (by simp)),rfl,g4,(b.at5 f5).2,rfl⟩
 rw[h5]at this;cases this
theorem LqB.GX(b:LqB t k S0 S1 S2){d d' c:Nat}(hc:c<256)(hX:hasB S0 c=false)(hd:d<256)(hd':d' < 256)(hne:d≠d')(h1:hasB S0 d=true)(h2:hasB S0 d'=true):False:=by
 rcases b.sm with h|⟨v,h⟩
 ·rw[h,lu _ hc]at hX;cases hX
 ·rw[h,lu _ hd]at h1
  rw[h,lu _ hd']at h2
  unfold l7 at h1 h2
  simp only[decide_eq_true_eq]at h1 h2
  omega
theorem Du{E:List Ed}{f0:Nat->Bool}{r:List Nat}(hr:cZ E=1::5::9::r)(x0 x1 x2:Bool)(l:List (Nat->Bool))(hn:l.Nodup)(h:∀ g∈l,dN E f0 g\/∃ f c,dN E (aB E f c) g/\¬(aB E f c 1=x0/\aB E f c 5=x1/\aB E f c 9=x2)):l.length<=1+7*2 ^ r.length:=by
 have code:∀ (p v:Nat),v % 8≠p->p<8->(if v % 8<p then v % 8 else v % 8-1)<7:=by intro p v h1 h2;split <;> omega
 refine rO (λ(g:Nat->Bool) (k:Nat)=>(k=0/\dN E f0 g)\/(∃ f c,dN E (aB E f c) g/\bR (onT E (aB E f c)) % 8≠bR [x0,x1,x2]/\
  k=1+(7*(bR (onT E (aB E f c)) / 8)+(if bR (onT E (aB E f c)) % 8<bR [x0,x1,x2]then bR (onT E (aB E f c)) % 8 else bR (onT E (aB E f c)) % 8-1)))) ?_ (1+7*2 ^ r.length) l hn ?_
 ·have hp:bR [x0,x1,x2]<8:=hP [x0,x1,x2]
  rintro a b k (⟨rfl,h1⟩|⟨f,c,h1,h2,rfl⟩) (⟨e,g1⟩|⟨f',c',g1,g2,e⟩)
  ·exact cI h1 g1
  ·omega
  ·omega
  ·have hb:bR (onT E (aB E f c))=bR (onT E (aB E f' c')):=by
    generalize bR (onT E (aB E f c))=u at *
    generalize bR (onT E (aB E f' c'))=v at *
    generalize bR [x0,x1,x2]=p at *
    have c1:=code p u h2 hp
    have c2:=code p v g2 hp
    have e1:u / 8=v / 8:=by omega
    have e2:u % 8=v % 8:=by
     split at e <;> split at e <;> omega
    omega
   rw[mj (j5 _ _ (by rw[lx,lx]) hb)]at h1
   exact cI h1 g1
 ·intro g hg
  rcases h g hg with h|⟨f,c,h1,h2⟩
  ·exact⟨0,by omega,.inl ⟨rfl,h⟩⟩
  ·have hp:bR [x0,x1,x2]<8:=hP [x0,x1,x2]
   have hv:bR (onT E (aB E f c))=bR [aB E f c 1,aB E f c 5,aB E f c 9]+8*bR (r.map (aB E f c)):=by
    unfold onT
    rw[hr]
    simp only[List.map_cons,bR]
    omega
   have h3:bR [aB E f c 1,aB E f c 5,aB E f c 9]<8:=hP [aB E f c 1,aB E f c 5,aB E f c 9]
   have hm:bR (onT E (aB E f c)) % 8≠bR [x0,x1,x2]:=by
    intro e
    have e3:bR [aB E f c 1,aB E f c 5,aB E f c 9]=bR [x0,x1,x2]:=by omega
    have:=j5 [aB E f c 1,aB E f c 5,aB E f c 9] [x0,x1,x2] rfl e3
    injection this with a1 a2
    injection a2 with a2 a3
    injection a3 with a3
    exact h2 ⟨a1,a2,a3⟩
   have hrl:=hP (r.map (aB E f c))
   rw[List.length_map]at hrl
   have hc:=code _ _ hm hp
   refine⟨_,?_,.inr ⟨f,c,h1,hm,rfl⟩⟩
   omega
theorem My(b:LqB t k S0 S1 S2)(l:List (Nat->Bool))(hn:l.Nodup)(h:∀ g∈l,Rch t g):l.length<=1+7*2 ^ (t.bg-3):=by
 obtain⟨r,hr⟩:=b.tg
 have hrl:r.length=t.bg-3:=by
  have:=oX t 0
  rw[hr]at this
  simp at this
  omega
 rw[<-hrl]
 by_cases hX:∃ c,c<256/\hasB S0 c=false
 ·obtain⟨c0,hc0,hX⟩:=hX
  refine Du (f0:=λx=>decide (x=t.fst 0)) hr true false true l hn (λg hg=>?_)
  have hr:=h g hg
  cases hr with
  |ini h=>exact .inl h
  | @step f g c hc hf h=>
   refine .inr ⟨f,c,h,λ⟨a1,a2,a3⟩=>?_⟩
   obtain⟨d,d',q1,q2,q3,q4,q5⟩:=b.Y hf hc a1 a2 a3
   exact b.GX hc0 hX q1 q2 q3 q4 q5
 ·refine Du (f0:=λx=>decide (x=t.fst 0)) hr false true true l hn (λg hg=>?_)
  have hr:=h g hg
  cases hr with
  |ini h=>exact .inl h
  | @step f g c hc hf h=>
   refine .inr ⟨f,c,h,λ⟨a1,a2,a3⟩=>hX ⟨c,hc,b.X hf hc a1 a2 a3⟩⟩
end
theorem Au{t:Rx}(hw:t.wt<=12)(l:List (Nat->Bool))(hn:l.Nodup)(h:∀ g∈l,Rch t g):l.length<=2000:=by
 have ho:=t.dz
 rcases Nat.lt_or_ge t.bg 11 with h10|h11
 ·have:=GL (E:=t.ag 0) l hn (λg hg=>(h g hg).Pb)
  rw[oX]at this
  have h2:2 ^ t.bg<=2 ^ 10:=Nat.pow_le_pow_right (by omega) (by omega)
  omega
 ·rcases Nat.lt_or_ge t.bg 12 with h12|h12
  ·have h1:t.bg=11:=by omega
   rcases JD t (by omega)with hl|hl|hl
   ·have:=Dt hl l hn h;omega
   ·have:=Mx hl l hn h
    rw[h1]at this
    omega
   ·obtain⟨k,S0,S1,S2,b⟩:=Lq.bot hl (by omega)
    have:=My b l hn h
    rw[h1]at this
    omega
  ·have:=Dt (oZ t (by omega)).2.1 l hn h
   omega
end
noncomputable section
theorem Dv(d)(q:Int):FQ N0 (d,(q,([],())))=some ((q,()),()):=by
 unfold FQ
 refine au (λm x r=>x=((),(q,((0:Int),())))/\r=some ((q,()),())) ?_ N0 0 _ _ (by unfold N0;omega) ⟨rfl,rfl⟩
 rintro m x r ⟨rfl,rfl⟩ k hk
 rfl
theorem Av{d}{v:Int}(h:d.2.2[0]?=some v):FR N0 (d,(0,()))=some ((v,()),()):=by
 have hl:0<d.2.2.length:=by
  rcases Nat.lt_or_ge 0 d.2.2.length with h2|h2
  ·exact h2
  ·rw[List.getElem?_eq_none h2]at h;cases h
 have g:d.2.2[((0:Int)).toNat]?=some v:=h
 unfold FR
 simp only
 refine aq ((),(false,())) (λK=>?_) ?_
 ·rw[show decide ((0:Int)<0)=false from rfl,cond_false,decide_eq_false (show ¬((d.2.2.length:Nat):Int)<=0 by omega)]
 ·simp only
  rw[cond_false,if_pos z0,g]
theorem Dw{d}{v:Int}(h:d.2.2[0]?=some v):FT N0 (d,([],()))=some ((v,()),()):=by
 unfold FT
 simp only
 rw[aa (Dv d 0)]
 simp only
 rw[aa (Av h)]
end
noncomputable section
theorem kB{s:List Int}{e:Int}(h:cY s=.error e):e=5\/e=6:=by
 unfold cY at h
 split at h
 ·injection h with h;omega
 split at h
 ·injection h with h;omega
 split at h
 ·injection h with h;omega
 split at h
 ·injection h with h;omega
 ·cases h
def Pd:List Int×(List (List Int)×List Int):=(List.replicate 256 0,([],[]))
theorem Dx{s:List Int}(hb:Bytes s)(hsm:s.length<=maxLen){e:Int}(h:cY s=.error e):wC N0 (s,())=some ((Pd,(e,())),()):=by
 have he:=kB h
 unfold wC
 simp only
 rw[aa (xX hb hsm),h]
 simp only[C6]
 rcases he with rfl|rfl <;> rfl
theorem GY{s:List Int}(hb:Bytes s)(hsm:s.length<=maxLen){t:Rx}(h:cY s=.ok t){d}{c:Int}(hd:CG N0 (nfT t,())=some ((d,(c,())),())):wC N0 (s,())=some ((d,(c,())),()):=by
 obtain⟨h1,h2,h3⟩:=mc hb h
 unfold wC
 simp only
 rw[aa (xX hb hsm),h]
 simp only[C6]
 rw[decide_true,Bool.not_true,cond_false,aa (Gw h1 h2)]
 simp only
 rw[decide_true,Bool.not_true,cond_false,aa hd]
def mkJ(n j:Nat):List Int:=(List.range n).map λq=>if q<j then -1 else 0
theorem gL(n j:Nat):(mkJ n j).length=n:=by simp[mkJ]
theorem ka{n:Nat}(j:Nat){i:Nat}(h:i<n):(mkJ n j)[i]?=some (if i<j then -1 else 0):=by
 unfold mkJ
 rw[List.getElem?_map,List.getElem?_range h]
 rfl
theorem GZ{n j:Nat}(h:j<n):(mkJ n j).set j (-1)=mkJ n (j+1):=by
 apply List.ext_getElem?
 intro i
 rw[List.getElem?_set]
 by_cases hi:i<n
 ·rw[ka j hi,ka (j+1) hi]
  by_cases e:j=i
  ·subst e
   rw[if_pos rfl,if_pos (by rw[gL];exact h),if_pos (by omega)]
  ·rw[if_neg e]
   by_cases h2:i<j
   ·rw[if_pos h2,if_pos (by omega)]
   ·rw[if_neg h2,if_neg (by omega)]
 ·have e1:(mkJ n (j+1))[i]?=none:=List.getElem?_eq_none (by rw[gL];omega)
  have e2:(mkJ n j)[i]?=none:=List.getElem?_eq_none (by rw[gL];omega)
  rw[e1,e2,if_neg (by omega)]
theorem Dy{n last:Nat}(h:last<n):(mkJ n n).set last 0=mkL n last:=by
 apply List.ext_getElem?
 intro i
 rw[List.getElem?_set]
 by_cases hi:i<n
 ·rw[ka n hi,ya last hi]
  by_cases e:last=i
  ·subst e
   rw[if_pos rfl,if_pos (by rw[gL];exact h),if_pos rfl]
  ·rw[if_neg e,if_pos hi,if_neg (λh=>e h.symm)]
 ·have e1:(mkL n last)[i]?=none:=List.getElem?_eq_none (by rw[x9];omega)
  have e2:(mkJ n n)[i]?=none:=List.getElem?_eq_none (by rw[gL];omega)
  rw[e1,e2,if_neg (by omega)]
theorem Dz(n:Nat):List.replicate n (0:Int)=mkJ n 0:=by
 apply List.ext_getElem?
 intro i
 by_cases hi:i<n
 ·rw[ka 0 hi,List.getElem?_replicate,if_pos hi,if_neg (by omega)]
 ·rw[List.getElem?_eq_none (by rw[List.length_replicate];omega),List.getElem?_eq_none (by rw[gL];omega)]
theorem G0{t:Rx}(hl:t.len<=400){d}{c:Int}(hd:CF N0 (nfT t,(mkL (2*t.len) (t.lst 0),()))=some ((d,(c,())),())):CG N0 (nfT t,())=some ((d,(c,())),()):=by
 have HH:=t.gR 0
 have hn8:2*t.len<=800:=by omega
 have hN:(nfT t).1=((2*t.len:Nat):Int):=rfl
 have hL:(nfT t).2.2.2=((t.lst 0:Nat):Int):=rfl
 unfold CG
 simp only
 rw[aa (uG hl)]
 simp only
 rw[Bool.not_true,cond_false]
 simp only[hN,hL]
 generalize 2*t.len=n at *
 generalize t.lst 0=last at *
 have hln:last<n:=by omega
 rw[if_pos ⟨by omega,by omega⟩,if_pos (by rw[Int.toNat_natCast];omega),Int.toNat_natCast,Dz]
 generalize (List.replicate 256 (0:Int),(([]:List (List Int)),([]:List Int)))=Z
 refine au (λm x q=>∃ j:Nat,x=((Z,(mkJ n j,())),((j:Int),()))/\m+j=n/\q=some ((d,(c,())),())) ?_ N0 n _ _ (by unfold N0;omega) ⟨0,rfl,rfl,rfl⟩
 rintro m x q ⟨j,rfl,hm,rfl⟩ k hk
 simp only
 rcases Nat.lt_or_ge j n with hj|hj
 ·have n0:(0:Int)<=(j:Int):=by omega
  rw[decide_eq_true (show(j:Int)<(((mkJ n 0).length:Nat):Int) by rw[gL];omega),cond_true,if_pos n0,Int.toNat_natCast,ka j hj]
  simp only
  rw[if_pos n0]
  rw[GZ hj,aO (by omega)]
  exact hk (m-1) _ _ (by omega) ⟨j+1,rfl,by omega,rfl⟩
 ·have:j=n:=by omega
  subst this
  have n0:(0:Int)<=(last:Int):=by omega
  rw[decide_eq_false (show ¬(j:Int)<(((mkJ j 0).length:Nat):Int) by rw[gL];omega),cond_false,if_pos n0,Int.toNat_natCast,ka j hln]
  simp only
  rw[if_pos n0]
  rw[Dy hln,aa hd]
end
noncomputable section
abbrev KM:=List (List Int×Int)
def eqK:List Int->List Int->Bool:=λa b=>decide (a=b)
theorem DC(k k':List Int)(v:Int):∀ x:KM,cT eqK k (cu eqK k' v x)=(decide (k=k')||cT eqK k x):=by
 intro x
 induction x with
 |nil=>simp[cu,cT,eqK]
 |cons p r ih=>
  simp only[cu]
  by_cases e:k'=p.1
  ·have:eqK k' p.1=true:=decide_eq_true e
   rw[this,cond_true]
   simp only[cT]
   rw[<-e]
   by_cases e2:k=k'
   ·rw[show eqK k k'=true from decide_eq_true e2,decide_eq_true e2];rfl
   ·rw[show eqK k k'=false from decide_eq_false e2,decide_eq_false e2];rfl
  ·have:eqK k' p.1=false:=decide_eq_false e
   rw[this,cond_false]
   simp only[cT]
   by_cases e2:k=p.1
   ·rw[show eqK k p.1=true from decide_eq_true e2,cond_true,cond_true,Bool.or_true]
   ·rw[show eqK k p.1=false from decide_eq_false e2,cond_false,cond_false,ih]
def Sup(n:Nat)(g:Nat->Bool):Prop:=∀ q,g q=true->q<n
theorem Sup.ext{n:Nat}{g g':Nat->Bool}(h:Sup n g)(h':Sup n g')(he:∀ i,i<n->g i=g' i):g=g':=by
 funext q
 by_cases hq:q<n
 ·exact he q hq
 ·cases h1:g q
  ·cases h2:g' q
   ·rfl
   ·exact absurd (h' q h2) hq
  ·exact absurd (h q h1) hq
theorem Sup.cut{n:Nat}{g:Nat->Bool}(h:Sup n g):wP n g=g:=by
 funext q
 unfold wP
 cases hg:g q
 ·simp
 ·simp[h q hg]
abbrev BI:=NfI×(List Int×(List Int×(KM×(List (List Bool)×(List Int×(List (List Int)×List Int))))))
structure BOk(N:NfI)(n last:Nat)(fL cls:List Int)(b:BI)(gs:List (Nat->Bool)):Prop where
 nf:b.1=N
 mks:b.2.1=mkL n last
 rp:b.2.2.1=fL
 key:∀ k,cT eqK k b.2.2.2.1=true↔∃ g∈gs,k=dy n g
 bN:b.2.2.2.2.1=gs.map (bsN n)
 cl:b.2.2.2.2.2.1=cls
 mark:b.2.2.2.2.2.2.2=gs.map λg=>eE g last n
 sup:∀ g∈gs,Sup n g
def r9(g:Nat->Bool):Nat->Bool
 |0=>false
 |i+1=>r9 g i||g i
theorem DD{g:Nat->Bool}:∀ {i:Nat},r9 g i=true↔∃ q,q<i/\g q=true:=by
 intro i
 induction i with
 |zero=>
  constructor
  ·intro h;cases h
  ·rintro⟨q,h,_⟩;omega
 |succ i ih=>
  simp only[r9,Bool.or_eq_true,ih]
  constructor
  ·rintro(⟨q,h1,h2⟩|h)
   ·exact⟨q,by omega,h2⟩
   ·exact⟨i,by omega,h⟩
  ·rintro⟨q,h1,h2⟩
   by_cases e:q=i
   ·subst e;exact .inr h2
   ·exact .inl ⟨q,by omega,h2⟩
theorem yj{N:NfI}{n last:Nat}{fL cls:List Int}(hn:n<=100000)(hl:last<n){b:BI}{gs:List (Nat->Bool)}(hb:BOk N n last fL cls b gs)(hg:gs.length<=100000){g:Nat->Bool}(hs:Sup n g):
 ∃ (r:Int) (b':BI) (gs':List (Nat->Bool)),CE N0 (b,(bsN n g,()))=some ((r,()),(b',()))/\BOk N n last fL cls b' gs'/\b'.2.2.2.2.2.2.1=b.2.2.2.2.2.2.1/\(((gs'=gs)/\((∀ q,g q=false)\/g∈gs))\/(gs'=gs++[g]/\g∉gs)):=by
 unfold CE
 simp only
 refine bC (λm x=>∃ i:Nat,x=((b,()),(r9 g i,((i:Int),())))/\m+i=n) (λz=>∃ (r:Int) (b':BI) (gs':List (Nat->Bool)),z=some ((r,()),(b',()))/\BOk N n last fL cls b' gs'/\b'.2.2.2.2.2.2.1=b.2.2.2.2.2.2.1/\(((gs'=gs)/\((∀ q,g q=false)\/g∈gs))\/(gs'=gs++[g]/\g∉gs))) ?_ N0 n _ (by unfold N0;omega) ⟨0,?_,rfl⟩
 ·rintro m x ⟨i,rfl,hm⟩ k hk
  simp only[eB]
  rcases Nat.lt_or_ge i n with hi|hi
  ·have n0:(0:Int)<=(i:Int):=by omega
   rw[decide_eq_true (show(i:Int)<((n:Nat):Int) by omega),cond_true,if_pos n0,Int.toNat_natCast,eC g hi]
   simp only
   refine cH (P:=λz=>∃ (r:Int) (b':BI) (gs':List (Nat->Bool)),z=some ((r,()),(b',()))/\BOk N n last fL cls b' gs'/\b'.2.2.2.2.2.2.1=b.2.2.2.2.2.2.1/\(((gs'=gs)/\((∀ q,g q=false)\/g∈gs))\/(gs'=gs++[g]/\g∉gs))) λK hK=>?_
   have hor:r9 g (i+1)=(r9 g i||g i):=rfl
   have fin:=hk (m-1) ((b,()),(r9 g (i+1),(((i+1:Nat):Int),()))) (by omega) ⟨i+1,rfl,by omega⟩
   cases hd:r9 g i
   ·rw[cond_false,hK]
    simp only
    rw[aO (by omega)]
    rw[hor,hd,Bool.false_or]at fin
    exact fin
   ·rw[cond_true,hK]
    simp only
    rw[aO (by omega)]
    rw[hor,hd,Bool.true_or]at fin
    exact fin
  ·have:i=n:=by omega
   subst this
   rw[decide_eq_false (show ¬(i:Int)<((i:Nat):Int) by omega),cond_false]
   cases hd:r9 g i
   ·rw[Bool.not_false,cond_true]
    refine⟨-1,b,gs,rfl,hb,rfl,.inl ⟨rfl,.inl λq=>?_⟩⟩
    cases hq:g q
    ·rfl
    ·rw[DD.2 ⟨q,hs q hq,hq⟩]at hd;cases hd
   ·rw[Bool.not_true,cond_false,aa (GF hn g)]
    simp only[hs.cut]
    show ∃ (r:Int) (b':BI) (gs':List (Nat->Bool)),(bif cT eqK (dy i g) b.2.2.2.1 then _ else _)=some ((r,()),(b',()))/\_
    cases hh:cT eqK (dy i g) b.2.2.2.1
    ·rw[cond_false]
     have hlen:b.2.2.2.2.1.length=gs.length:=by rw[hb.bN,List.length_map]
     have xY:b.2.2.2.2.2.2.2.length=gs.length:=by rw[hb.mark,List.length_map]
     rw[if_pos (by rw[hlen];simp;omega),if_pos (by rw[hlen];simp;omega)]
     rw[show(λ(a b:List Int)=>decide (a=b))=eqK from rfl]
     rw[aa (GJ hn hl (b.1,(b.2.1,(b.2.2.1,(cu eqK (dy i g) (b.2.2.2.2.1.length:Int) b.2.2.2.1,(b.2.2.2.2.1++[bsN i g],b.2.2.2.2.2))))) hb.mks g)]
     simp only
     rw[if_pos (by rw[xY];simp;omega),if_pos (by rw[xY];simp;omega)]
     refine⟨_,_,gs++[g],rfl,⟨hb.nf,hb.mks,hb.rp,λk'=>?_,?_,hb.cl,?_,?_⟩,rfl,.inr ⟨rfl,λhm=>?_⟩⟩
     ·show cT eqK k' (cu eqK (dy i g) _ _)=true↔_
      rw[DC,Bool.or_eq_true,decide_eq_true_eq,hb.key]
      constructor
      ·rintro(h|⟨g',h1,h2⟩)
       ·exact⟨g,by simp,h⟩
       ·exact⟨g',by simp[h1],h2⟩
      ·rintro⟨g',h1,h2⟩
       rcases List.mem_append.1 h1 with h1|h1
       ·exact .inr ⟨g',h1,h2⟩
       ·simp at h1;subst h1;exact .inl h2
     ·show b.2.2.2.2.1++[bsN i g]=_
      rw[hb.bN];simp
     ·show b.2.2.2.2.2.2.2++[eE g last i]=_
      rw[hb.mark];simp
     ·intro g' hg'
      rcases List.mem_append.1 hg' with h1|h1
      ·exact hb.sup g' h1
      ·simp at h1;subst h1;exact hs
     ·have:=(hb.key (dy i g)).2 ⟨g,hm,rfl⟩
      rw[hh]at this;cases this
    ·rw[cond_true]
     refine⟨_,b,gs,rfl,hb,rfl,.inl ⟨rfl,.inr ?_⟩⟩
     obtain⟨g',h1,h2⟩:=(hb.key _).1 hh
     have:=hs.ext (hb.sup g' h1) (Dn h2)
     rw[this];exact h1
 ·rfl
end
noncomputable section
theorem G1{n x:Nat}(h:x<n):(List.replicate n false).set x true=bsN n (λq=>decide (q=x)):=by
 have h0:List.replicate n false=bsN n (λ_=>false):=by
  apply List.ext_getElem?
  intro i
  by_cases hi:i<n
  ·rw[eC (n:=n) (λ_=>false) hi,List.getElem?_replicate,if_pos hi]
  ·rw[List.getElem?_eq_none (by rw[List.length_replicate];omega),List.getElem?_eq_none (by rw[eB];omega)]
 rw[h0,rX _ h]
 congr 1
theorem G2{n x:Nat}(h:x<n):(List.replicate n false)[x]?=some false:=by
 rw[List.getElem?_replicate,if_pos h]
theorem uN{E:List Ed}{n:Nat}(hin:InE n E){f g:Nat->Bool}(hf:∀ q,f q=true->q<n)(h:dN E f g):Sup n g:=by
 intro q hq
 have:=h.2.2 (λq=>decide (q<n)) (λe he _ _=>by simpa using(hin e he).2) (λx hx=>by simpa using hf x hx) q hq
 simpa using this
theorem Aw{E:List Ed}{n:Nat}(hin:InE n E)(f:Nat->Bool)(c:Nat):∀ q,aB E f c q=true->q<n:=by
 intro q hq
 obtain⟨e,he,_,_,_,rfl⟩:=cV.1 hq
 exact(hin e he).2
structure uO(t:Rx)(g0:Nat->Bool)(gs:List (Nat->Bool)):Prop where
 nd:gs.Nodup
 rch:∀ g∈gs,Rch t g
 hd:gs[0]?=some g0
theorem uO.le{t:Rx}{g0:Nat->Bool}{gs:List (Nat->Bool)}(h:uO t g0 gs)(hw:t.wt<=12):gs.length<=2000:=Au hw gs h.nd h.rch
theorem uO.push{t:Rx}{g0 g:Nat->Bool}{gs:List (Nat->Bool)}(h:uO t g0 gs)(hr:Rch t g)(hn:g∉gs):uO t g0 (gs++[g]) where
 nd:=by
  rw[List.nodup_append]
  refine⟨h.nd,by simp,λa ha b hb=>?_⟩
  simp at hb
  subst hb
  rintro rfl
  exact hn ha
 rch:=λg' hg'=>by
  rcases List.mem_append.1 hg' with h1|h1
  ·exact h.rch g' h1
  ·simp at h1;subst h1;exact hr
 hd:=by
  have:=h.hd
  rw[List.getElem?_append_left (List.getElem?_eq_some_iff.1 this).1]
  exact this
def HI(l:List Int):Prop:=l.length<=256/\∀ v∈l,∃ c:Nat,c<256/\v=(c:Int)
abbrev DfI:=List Int×(List (List Int)×List Int)
def DQ(t:Rx)(z:Option ((DfI×(Int×Unit))×Unit)):Prop:=∃ d:DfI,z=some ((d,((0:Int),())),())/\d.2.2[0]?=some (if t.null=true then 0 else -1)
theorem G3{t:Rx}(hok:t.ok)(hlen:t.len<=400)(hw:t.wt<=12):
 DQ t (CF N0 (nfT t,(mkL (2*t.len) (t.lst 0),()))):=by
 have hin:=ql t
 have hE:=eT t 0
 have hS:=Jy t hok 0
 have PM:=t.gR 0
 have PN:=t.ky 0
 have hn:2*t.len<=100000:=by omega
 unfold CF
 simp only
 rw[aa (uG hlen)]
 simp only
 rw[Bool.not_true,cond_false,show nfT t=(((2*t.len:Nat):Int),((t.ag 0).map edI,(((t.fst 0:Nat):Int),((t.lst 0:Nat):Int))))from rfl]
 rw[aa (Gy (by omega) _)]
 simp only
 obtain⟨arr,Pe,hao⟩:=GH (bN:=eD (t.ag 0)) (by have:=qm (t.ag 0);omega) (λS hS'=>by
  unfold eD at hS'
  obtain⟨e,he,rfl⟩:=List.mem_map.1 hS'
  exact hS e (List.mem_filter.1 he).1)
 rw[aa Pe]
 simp only
 generalize hNf:(((2*t.len:Nat):Int),((t.ag 0).map edI,(((t.fst 0:Nat):Int),((t.lst 0:Nat):Int))))=N
 have hN1:N.1=((2*t.len:Nat):Int):=by rw[<-hNf]
 have hN2:N.2.2.1=((t.fst 0:Nat):Int):=by rw[<-hNf]
 generalize hZ:(List.replicate 256 (0:Int),(([]:List (List Int)),([]:List Int)))=Z
 generalize hnn:2*t.len=n at *
 generalize hll:t.lst 0=last at *
 -- the bytes Mz PE for MY
 refine bC (λm x=>∃ (c:Nat) (fL:List Int),x=((Z,((N,(mkL n last,(fL,(([]:KM),(([]:List (List Bool)),(arr,(([]:List (List Int)),([]:List Int)))))))),())),((c:Int),()))/\m+c=256/\fL.length<=c/\HI fL) (DQ t) ?_ N0 256 _ (by unfold N0;omega) ⟨0,[],rfl,rfl,by simp,by simp[HI]⟩
 rintro m x ⟨c,fL,rfl,hm,hrl,hro⟩ k hk
 simp only
 rcases Nat.lt_or_ge c 256 with hc|hc
 ·have n0:(0:Int)<=(c:Int):=by omega
  obtain⟨v,hv⟩:∃ v,arr[c]?=some v:=⟨arr[c]'(by rw[hao.1];exact hc),List.getElem?_eq_getElem _⟩
  rw[decide_eq_true (show(c:Int)<256 by omega),cond_true,if_pos n0,Int.toNat_natCast,hv]
  simp only
  refine cH (P:=DQ t) λK hK=>?_
  cases hd:decide (IntKind.wrap .i64 v=((fL.length:Nat):Int))
  ·rw[cond_false,hK]
   simp only
   rw[aO (by omega)]
   exact hk (m-1) _ (by omega) ⟨c+1,fL,rfl,by omega,by omega,hro⟩
  ·rw[cond_true,if_pos (by simp;omega),if_pos (by simp;omega),hK]
   simp only
   rw[aO (by omega),gm hc]
   refine hk (m-1) _ (by omega) ⟨c+1,fL++[(c:Int)],rfl,by omega,by simp;omega,by simp;omega,λv' hv'=>?_⟩
   rcases List.mem_append.1 hv' with h1|h1
   ·exact hro.2 v' h1
   ·simp at h1;exact⟨c,hc,h1⟩
 ·rw[decide_eq_false (show ¬(c:Int)<256 by omega),cond_false]
  rw[if_pos ⟨by omega,by omega⟩,if_pos (by rw[Int.toNat_natCast];omega),if_pos (by omega),Int.toNat_natCast,Int.toNat_natCast,G2 (show t.fst 0<n by omega)]
  simp only
  rw[if_pos (by omega)]
  have hbs:=G1 (n:=n) (x:=t.fst 0) (by omega)
  rw[hbs]
  obtain⟨g0,hg0,hc0⟩:=x5 (n:=n) hn (E:=t.ag 0) (by omega) hin (((t.fst 0:Nat):Int),((last:Nat):Int)) (λq=>decide (q=t.fst 0))
  rw[hNf]at hg0
  rw[aa hg0]
  simp only
  have hs0:Sup n g0:=uN hin (λq hq=>by rw[decide_eq_true_eq]at hq;omega) hc0
  have hb0:BOk N n last fL arr (N,(mkL n last,(fL,(([]:KM),(([]:List (List Bool)),(arr,(([]:List (List Int)),([]:List Int)))))))) []:=
   ⟨rfl,rfl,rfl,λk=>⟨λh=>(by cases h),λ⟨g,h,_⟩=>(by simp at h)⟩,rfl,rfl,rfl,λg h=>(by simp at h)⟩
  obtain⟨r,b1,gs1,e1,ob1,nx1,Pf⟩:=yj hn (by omega) hb0 (by simp) hs0
  rw[aa e1]
  simp only
  have Pg:uO t g0 gs1:=by
   rcases Pf with⟨_,h|h⟩|⟨rfl,_⟩
   ·have:=hc0.1 (t.fst 0) (by simp)
    rw[h]at this;cases this
   ·simp at h
   ·exact⟨by simp,λg hg=>by simp at hg;subst hg;exact .ini hc0,rfl⟩
  refine bC (λm x=>∃ (i:Nat) (b:BI) (gs:List (Nat->Bool)),x=((Z,(b,())),((i:Int),()))/\BOk N n last fL arr b gs/\uO t g0 gs/\m+i=2000/\i<=gs.length/\b.2.2.2.2.2.2.1.length=i) (DQ t) ?_ N0 2000 _ (by unfold N0;omega) ⟨0,b1,gs1,rfl,ob1,Pg,rfl,Nat.zero_le _,by rw[nx1];rfl⟩
  rintro m x ⟨i,b,gs,rfl,ob,og,hm,hi,hnx⟩ k hk
  have hle:=og.le hw
  have hsl:b.2.2.2.2.1.length=gs.length:=by rw[ob.bN,List.length_map]
  simp only[hsl]
  rcases Nat.lt_or_ge i gs.length with hil|hil
  ·rw[decide_eq_true (show(i:Int)<((gs.length:Nat):Int) by omega),cond_true,decide_eq_false (show ¬(2000:Int)<((gs.length:Nat):Int) by omega),cond_false]
   refine bC (λm x=>∃ (j:Nat) (b':BI) (gs':List (Nat->Bool)) (row:List Int),x=((Z,(b',())),(row,((j:Int),())))/\BOk N n last fL arr b' gs'/\uO t g0 gs'/\m+j=fL.length/\i<gs'.length/\b'.2.2.2.2.2.2.1.length=i/\row.length=j) (DQ t) ?_ N0 fL.length _ (by have:=hro.1;unfold N0;omega) ⟨0,b,gs,[],rfl,ob,og,rfl,hil,hnx,rfl⟩
   rintro m' x ⟨j,b',gs',row,rfl,ob',og',hm',JF,Ph,bP⟩ k' hk'
   simp only[ob.rp]
   have PO:=og'.le hw
   rcases Nat.lt_or_ge j fL.length with hj|hj
   ·obtain⟨cc,hcc,hcv⟩:=hro.2 _ (List.getElem_mem hj)
    have hgj:fL[j]?=some (cc:Int):=by rw[List.getElem?_eq_getElem hj,hcv]
    have hgi:gs'[i]?=some gs'[i]:=List.getElem?_eq_getElem JF
    have hmi:gs'[i]∈gs':=List.getElem_mem JF
    have bf:b'.2.2.2.2.1[i]?=some (bsN n gs'[i]):=by rw[ob'.bN,List.getElem?_map,hgi];rfl
    generalize gs'[i]=gi at hmi bf
    have Hn:=hro.1
    rw[decide_eq_true (show(j:Int)<((fL.length:Nat):Int) by omega),cond_true,if_pos (by omega),Int.toNat_natCast,hgj]
    simp only
    rw[if_pos (by omega),Int.toNat_natCast,bf]
    simp only
    have h168:=GB (n:=n) hn (E:=t.ag 0) (by omega) hin hS (((t.fst 0:Nat):Int),((last:Nat):Int)) gi hcc
    rw[hNf]at h168
    rw[aa h168]
    simp only
    obtain⟨g2,hg2,hc2⟩:=x5 (n:=n) hn (E:=t.ag 0) (by omega) hin (((t.fst 0:Nat):Int),((last:Nat):Int)) (aB (t.ag 0) gi cc)
    rw[hNf]at hg2
    rw[aa hg2]
    simp only
    have hs2:Sup n g2:=uN hin (Aw hin gi cc) hc2
    obtain⟨r2,b2,gs2,e2,ob2,nx2,MA⟩:=yj hn (by omega) ob' (by omega) hs2
    rw[aa e2]
    simp only
    rw[if_pos (by simp;omega),if_pos (by simp;omega),aO (by omega)]
    refine hk' (m' - 1) _ (by omega) ⟨j+1,b2,gs2,row++[r2],rfl,ob2,?_,by omega,?_,by rw[nx2];exact Ph,by simp;omega⟩
    ·rcases MA with⟨rfl,_⟩|⟨rfl,hnm⟩
     ·exact og'
     ·exact og'.push (.step hcc (og'.rch gi hmi) hc2) hnm
    ·rcases MA with⟨rfl,_⟩|⟨rfl,_⟩
     ·exact JF
     ·simp;omega
   ·rw[decide_eq_false (show ¬(j:Int)<((fL.length:Nat):Int) by omega),cond_false]
    rw[if_pos (by simp;omega),if_pos (by simp;omega),aO (by omega)]
    exact hk (m-1) _ (by omega) ⟨i+1,_,gs',rfl,⟨ob'.nf,ob'.mks,ob'.rp,ob'.key,ob'.bN,ob'.cl,ob'.mark,ob'.sup⟩,og',by omega,by omega,by simp;omega⟩
  ·rw[decide_eq_false (show ¬(i:Int)<((gs.length:Nat):Int) by omega),cond_false]
   refine⟨_,rfl,?_⟩
   show b.2.2.2.2.2.2.2[0]?=_
   rw[ob.mark,List.getElem?_map,og.hd]
   have hmn:=Ar t hc0
   rw[hll]at hmn
   have hln:last<n:=by omega
   simp only[Option.map_some,eE,hmn]
   simp[hln]
end
noncomputable section
def cls(c:Nat):Int:=if c=32\/c=9\/c=10\/c=13 then 1 else if 48<=c/\c<=57 then 2 else if(97<=c/\c<=122)\/(65<=c/\c<=90)\/c=95 then 3 else if 32<c/\c<127 then 4 else 0
theorem DE:∀ c:Fin 256,Ak N0 (((c.val:Nat):Int),())=some ((cls c.val,()),()):=by decide +kernel
theorem G4:∀ c:Fin 256,p99 N0 (((c.val:Nat):Int),())=some ((cls c.val,()),()):=by decide +kernel
theorem yk{c:Int}(h:0<=c/\c<=255):Ak N0 (c,())=some ((cls c.toNat,()),()):=by
 have:=DE ⟨c.toNat,by omega⟩
 simp only[Int.toNat_of_nonneg h.1]at this
 exact this
theorem JG{c:Int}(h:0<=c/\c<=255):p99 N0 (c,())=some ((cls c.toNat,()),()):=by
 have:=G4 ⟨c.toNat,by omega⟩
 simp only[Int.toNat_of_nonneg h.1]at this
 exact this
def Ax(k:Nat)(c:Int):Prop:=cls c.toNat=3\/(cls c.toNat=2/\k≠0)
def DF(s:List Int):Prop:=1<=s.length/\s.length<=40/\∀ k c,s[k]?=some c->Ax k c
def eG(s:List Int):Bool:=@decide (DF s) (Classical.propDecidable _)
theorem yl{s:List Int}(h:DF s):eG s=true:=@decide_eq_true _ (Classical.propDecidable _) h
theorem iQ{s:List Int}(h:¬DF s):eG s=false:=@decide_eq_false _ (Classical.propDecidable _) h
theorem wS{s:List Int}(hb:Bytes s)(hs:s.length<=maxLen):p67 N0 (s,())=some ((eG s,()),()):=by
 unfold p67
 simp only
 refine au (λm x r=>∃ j:Nat,x=((),((j:Int),()))/\m+j=s.length/\(∀ k c,k<j->s[k]?=some c->Ax k c)/\r=some ((eG s,()),())) ?_ N0 s.length _ _ (by have:=eL hs;omega) ⟨0,rfl,rfl,λk c h=>by omega,rfl⟩
 rintro m x r ⟨j,rfl,hm,gM,rfl⟩ k hk
 simp only
 rcases Nat.lt_or_ge j s.length with hj|hj
 ·have n0:(0:Int)<=(j:Int):=by omega
  have hg:s[j]?=some s[j]:=List.getElem?_eq_getElem hj
  generalize s[j]=c at hg
  rw[decide_eq_true (show(j:Int)<((s.length:Nat):Int) by omega),cond_true,if_pos n0,Int.toNat_natCast,hg]
  simp only
  rw[aa (JG (hb.get hg))]
  simp only
  by_cases hok:Ax j c
  ·refine aq ((),(false,())) (λK=>?_) ?_
   ·rcases hok with h|⟨h,h0⟩
    ·rw[h];rfl
    ·rw[h,show(!decide ((2:Int)=3))=true from rfl,cond_true,show(!decide ((2:Int)=2))=false from rfl,cond_false,decide_eq_false (show ¬(j:Int)=0 by omega)]
   ·simp only
    rw[cond_false,aC hj hs]
    refine hk (m-1) _ _ (by omega) ⟨j+1,rfl,by omega,λk c' hk' hc'=>?_,rfl⟩
    by_cases e:k=j
    ·subst e
     rw[hg]at hc'
     injection hc' with hc'
     subst hc'
     exact hok
    ·exact gM k c' (by omega) hc'
  ·refine aq ((),(true,())) (λK=>?_) ?_
   ·unfold Ax at hok
    have h3:¬cls c.toNat=3:=λh=>hok (.inl h)
    rw[decide_eq_false h3,Bool.not_false,cond_true]
    by_cases h2:cls c.toNat=2
    ·have h0:j=0:=by
      rcases Nat.eq_zero_or_pos j with h|h
      ·exact h
      ·exact absurd (.inr ⟨h2,by omega⟩) hok
     rw[decide_eq_true h2,Bool.not_true,cond_false,decide_eq_true (show(j:Int)=0 by omega)]
    ·rw[decide_eq_false h2,Bool.not_false,cond_true]
   ·simp only
    rw[cond_true,iQ λh=>hok (h.2.2 j c hg)]
 ·rw[decide_eq_false (show ¬(j:Int)<((s.length:Nat):Int) by omega),cond_false]
  refine aq ((),(eG s,())) (λK=>?_) rfl
  have MB:∀ k c,s[k]?=some c->Ax k c:=λk c hc=>gM k c (Nat.lt_of_lt_of_le (List.getElem?_eq_some_iff.1 hc).1 hj) hc
  by_cases h1:1<=s.length
  ·rw[decide_eq_true (show(1:Int)<=((s.length:Nat):Int) by omega),cond_true]
   by_cases h2:s.length<=40
   ·rw[decide_eq_true (show((s.length:Nat):Int)<=40 by omega),yl ⟨h1,h2,MB⟩]
   ·rw[decide_eq_false (show ¬((s.length:Nat):Int)<=40 by omega),iQ λh=>h2 h.2.1]
  ·rw[decide_eq_false (show ¬(1:Int)<=((s.length:Nat):Int) by omega),cond_false,iQ λh=>h1 h.1]
end
noncomputable section
theorem wT{s:List Int}(hb:Bytes s)(hs:s.length<=maxLen):p89 N0 (s,())=some ((eG s,()),()):=by
 unfold p89
 simp only
 by_cases h40:40<s.length
 ·refine aq ((),(true,())) (λK=>?_) ?_
  ·rw[decide_eq_true (show(40:Int)<((s.length:Nat):Int) by omega),cond_true]
  ·simp only
   rw[cond_true,iQ λh=>by have:=h.2.1;omega]
 cases s with
 |nil=>
  refine aq ((),(true,())) (λK=>?_) ?_
  ·rfl
  ·simp only
   rw[cond_true,iQ λh=>by have:=h.1;simp at this]
 |cons c r=>
  have hc:=hb c (by simp)
  have n0:(0:Int)<=0:=by omega
  have yU:∀ K:Unit×(Bool×Unit)->Option ((Bool×Unit)×Unit),(bif decide ((40:Int)<(((c::r:List Int).length:Nat):Int))then K ((),(true,()))else(bif decide ((c::r:List Int)=[])then K ((),(true,()))else(if(0:Int)<=0 then(match(c::r:List Int)[((0:Int)).toNat]? with|some v11=>(ae (Ak N0 (v11,())) λv12=>K ((),((!decide (v12.1.1=3)),())))|none=>none)else none)))=K ((),((!decide (cls c.toNat=3)),())):=by
   intro K
   rw[decide_eq_false (show ¬(40:Int)<(((c::r:List Int).length:Nat):Int) by omega),cond_false,show decide ((c::r:List Int)=[])=false from rfl,cond_false,if_pos n0,uC]
   simp only
   rw[aa (yk hc)]
  refine aq ((),((!decide (cls c.toNat=3)),())) (λK=>yU K) ?_
  simp only
  by_cases h3:cls c.toNat=3
  ·rw[decide_eq_true h3,Bool.not_true,cond_false]
   refine au (λm x q=>∃ j:Nat,x=((),((j:Int),()))/\m+j=(c::r).length/\(∀ k d,k<j->(c::r)[k]?=some d->Ax k d)/\q=some ((eG (c::r),()),())) ?_ N0 (c::r).length _ _ (by have:=eL hs;omega) ⟨0,rfl,rfl,λk d h=>by omega,rfl⟩
   rintro m x q ⟨j,rfl,hm,gM,rfl⟩ k hk
   simp only
   rcases Nat.lt_or_ge j (c::r).length with hj|hj
   ·have n1:(0:Int)<=(j:Int):=by omega
    have hg:(c::r)[j]?=some (c::r)[j]:=List.getElem?_eq_getElem hj
    generalize (c::r)[j]=d at hg
    rw[decide_eq_true (show(j:Int)<(((c::r:List Int).length:Nat):Int) by omega),cond_true,if_pos n1,Int.toNat_natCast,hg]
    simp only
    rw[aa (yk (hb.get hg))]
    simp only
    by_cases hok:cls d.toNat=2\/cls d.toNat=3
    ·refine aq ((),(false,())) (λK=>?_) ?_
     ·rcases hok with h|h <;> rw[h] <;> rfl
     ·simp only
      rw[cond_false,aC hj hs]
      refine hk (m-1) _ _ (by omega) ⟨j+1,rfl,by omega,λk d' hk' hd'=>?_,rfl⟩
      by_cases e:k=j
      ·subst e
       rw[hg]at hd'
       injection hd' with hd'
       subst hd'
       rcases hok with h|h
       ·right
        refine⟨h,λhk0=>?_⟩
        subst hk0
        have:c=d:=by simpa using hg
        rw[<-this,h3]at h
        cases h
       ·exact .inl h
      ·exact gM k d' (by omega) hd'
    ·have h2:¬cls d.toNat=2:=λh=>hok (.inl h)
     have h3':¬cls d.toNat=3:=λh=>hok (.inr h)
     refine aq ((),(true,())) (λK=>?_) ?_
     ·rw[decide_eq_false h2,Bool.not_false,cond_true,decide_eq_false h3',Bool.not_false]
     ·simp only
      rw[cond_true,iQ λh=>by
       rcases h.2.2 j d hg with h|h
       ·exact h3' h
       ·exact h2 h.1]
   ·rw[decide_eq_false (show ¬(j:Int)<(((c::r:List Int).length:Nat):Int) by omega),cond_false]
    rw[yl ⟨by simp,by omega,λk d hd=>gM k d (Nat.lt_of_lt_of_le (List.getElem?_eq_some_iff.1 hd).1 hj) hd⟩]
  ·rw[decide_eq_false h3,Bool.not_false,cond_true,iQ λh=>by
    rcases h.2.2 0 c rfl with h|h
    ·exact h3 h
    ·exact h.2 rfl]
end
noncomputable section
abbrev RuI:=List Int×(Int×List Int)
def DG(r:RuI):Prop:=Bytes r.1/\r.1.length<=maxLen/\Bytes r.2.2/\r.2.2.length<=maxLen
def ym(s:List Int):Int:=match cY s with
 |.error e=>e
 |.ok t=>if t.null=true then 14 else 0
def Ay(rs:List RuI)(i:Nat)(nm:List Int):Prop:=∃ j r,j<i/\rs[j]?=some r/\r.1=nm
noncomputable instance (rs:List RuI) (i:Nat) (nm:List Int):Decidable (Ay rs i nm):=Classical.propDecidable _
def mT(rs:List RuI)(i:Nat)(r:RuI):Int:=
 if eG r.1=false then 8 else if Ay rs i r.1 then 9 else if r.2.1<0\/2<r.2.1 then 1 else ym r.2.2
theorem JH{rs:List RuI}(hs:rs.length<=maxLen){i:Nat}{r:RuI}(hr:rs[i]?=some r)(hok:DG r):p66 N0 (rs,((i:Int),()))=some ((mT rs i r,()),()):=by
 obtain⟨h1,h2,h3,h4⟩:=hok
 have hi:i<rs.length:=(List.getElem?_eq_some_iff.1 hr).1
 have n0:(0:Int)<=(i:Int):=by omega
 unfold p66
 simp only
 rw[if_pos n0,Int.toNat_natCast,hr]
 simp only
 rw[aa (wS h1 h2)]
 simp only
 unfold mT
 cases hn:eG r.1
 ·rw[Bool.not_false,cond_true,if_pos rfl]
 rw[Bool.not_true,cond_false,if_neg (by simp)]
 refine au (λm x q=>∃ j:Nat,x=((),((j:Int),()))/\m+j=i/\(∀ k r',k<j->rs[k]?=some r'->¬r'.1=r.1)/\q=some ((if Ay rs i r.1 then 9 else if r.2.1<0\/2<r.2.1 then 1 else ym r.2.2,()),())) ?_ N0 i _ _ (by unfold N0;unfold maxLen at hs;omega) ⟨0,rfl,rfl,λk r' h=>by omega,rfl⟩
 rintro m x q ⟨j,rfl,hm,gM,rfl⟩ k hk
 simp only
 rcases Nat.lt_or_ge j i with hj|hj
 ·have n1:(0:Int)<=(j:Int):=by omega
  have hg:rs[j]?=some (rs[j]'(by omega)):=List.getElem?_eq_getElem _
  generalize rs[j]'(by omega)=r' at hg
  rw[decide_eq_true (show(j:Int)<(i:Int) by omega),cond_true,if_pos n1,Int.toNat_natCast,hg]
  simp only
  by_cases e:r'.1=r.1
  ·rw[decide_eq_true e,cond_true,if_pos ⟨j,r',hj,hg,e⟩]
  ·rw[decide_eq_false e,cond_false,aC (show j<rs.length by omega) hs]
   refine hk (m-1) _ _ (by omega) ⟨j+1,rfl,by omega,λk' r2 hk' hr2=>?_,rfl⟩
   by_cases e2:k'=j
   ·subst e2
    rw[hg]at hr2
    injection hr2 with hr2
    subst hr2
    exact e
   ·exact gM k' r2 (by omega) hr2
 ·rw[decide_eq_false (show ¬(j:Int)<(i:Int) by omega),cond_false]
  have hnd:¬Ay rs i r.1:=by
   rintro⟨k',r2,hk',hr2,e⟩
   exact gM k' r2 (by omega) hr2 e
  rw[if_neg hnd]
  refine aq ((),(decide (r.2.1<0\/2<r.2.1),())) (λK=>?_) ?_
  ·by_cases q1:r.2.1<0
   ·rw[decide_eq_true q1,cond_true,decide_eq_true (.inl q1)]
   ·rw[decide_eq_false q1,cond_false]
    have:decide (r.2.1<0\/2<r.2.1)=decide (2<r.2.1):=by rw[decide_eq_decide];exact⟨λh=>h.resolve_left q1,.inr⟩
    rw[this]
  ·simp only
   by_cases hk2:r.2.1<0\/2<r.2.1
   ·rw[if_pos hk2,decide_eq_true hk2,cond_true]
   ·rw[if_neg hk2,decide_eq_false hk2,cond_false,aa (Jw h3)]
    unfold ym
    cases hp:cY r.2.2 with
    |error e=>
     rcases kB hp with rfl|rfl <;> rfl
    |ok t=>
     obtain⟨q1,q2,q3⟩:=mc h3 hp
     simp only[C6]
     rw[decide_true,Bool.not_true,cond_false,aa (Jx q1 (by omega))]
     simp only
     cases t.null <;> rfl
end
noncomputable section
def chk(rs:List RuI):Nat->List RuI->Nat×Int
 |i,[]=>(i,0)
 |i,r::rest=>if mT rs i r=0 then chk rs (i+1) rest else(i,mT rs i r)
def ic(rs:List RuI):Nat×Int:=if 60<rs.length then(rs.length,6)else chk rs 0 rs
theorem JI{rs:List RuI}(hs:rs.length<=maxLen)(hok:∀ r∈rs,DG r):p35 N0 (rs,())=some ((((ic rs).1:Int),((ic rs).2,())),()):=by
 unfold p35 ic
 simp only
 by_cases h60:60<rs.length
 ·rw[if_pos h60,decide_eq_true (show(60:Int)<((rs.length:Nat):Int) by omega),cond_true]
 rw[if_neg h60,decide_eq_false (show ¬(60:Int)<((rs.length:Nat):Int) by omega),cond_false]
 refine au (λm x q=>∃ j:Nat,x=((),((j:Int),()))/\m+j=rs.length/\chk rs j (rs.drop j)=chk rs 0 rs/\q=some ((((chk rs 0 rs).1:Int),((chk rs 0 rs).2,())),())) ?_ N0 rs.length _ _ (by have:=eL hs;omega) ⟨0,rfl,rfl,by rw[List.drop_zero],rfl⟩
 rintro m x q ⟨j,rfl,hm,hch,rfl⟩ k hk
 simp only
 rcases Nat.lt_or_ge j rs.length with hj|hj
 ·have hg:rs[j]?=some rs[j]:=List.getElem?_eq_getElem hj
  have gw:=hok _ (List.getElem_mem hj)
  rw[List.drop_eq_getElem_cons hj]at hch
  generalize rs[j]=r at hg gw hch
  rw[decide_eq_true (show(j:Int)<((rs.length:Nat):Int) by omega),cond_true,aa (JH hs hg gw)]
  simp only
  simp only[chk]at hch
  by_cases he:mT rs j r=0
  ·rw[if_pos he]at hch
   rw[decide_eq_true he,Bool.not_true,cond_false,aC hj hs]
   exact hk (m-1) _ _ (by omega) ⟨j+1,rfl,by omega,hch,rfl⟩
  ·rw[if_neg he]at hch
   rw[decide_eq_false he,Bool.not_false,cond_true,<-hch]
 ·have:j=rs.length:=by omega
  subst this
  rw[decide_eq_false (show ¬((rs.length:Nat):Int)<((rs.length:Nat):Int) by omega),cond_false]
  rw[List.drop_length]at hch
  rw[<-hch]
  rfl
end
noncomputable section
theorem wU{s:List Int}(hb:Bytes s)(h12:s.length<=12){t:Rx}(h:cY s=.ok t):∃ d,wC N0 (s,())=some ((d,((0:Int),())),())/\d.2.2[0]?=some (if t.null=true then 0 else -1):=by
 obtain⟨h1,h2,h3⟩:=mc hb h
 have hw:=As hb h
 obtain⟨d,hd,hm⟩:=G3 h1 h2 (by omega)
 exact⟨d,GY hb (by unfold maxLen;omega) h (G0 h2 hd),hm⟩
theorem DH(k k':List Int)(v:Int):∀ x:KM,bB eqK k (cu eqK k' v x)=if k=k' then v else bB eqK k x:=by
 intro x
 induction x with
 |nil=>
  simp only[cu,bB,eqK]
  by_cases e:k=k' <;> simp[e]
 |cons p r ih=>
  simp only[cu]
  by_cases e:k'=p.1
  ·have:eqK k' p.1=true:=decide_eq_true e
   rw[this,cond_true]
   simp only[bB]
   rw[<-e]
   by_cases e2:k=k'
   ·rw[show eqK k k'=true from decide_eq_true e2,if_pos e2];rfl
   ·rw[show eqK k k'=false from decide_eq_false e2,if_neg e2];rfl
  ·have:eqK k' p.1=false:=decide_eq_false e
   rw[this,cond_false]
   simp only[bB]
   by_cases e2:k=p.1
   ·rw[show eqK k p.1=true from decide_eq_true e2,cond_true,cond_true]
    rw[if_neg]
    rintro rfl
    exact e e2
   ·rw[show eqK k p.1=false from decide_eq_false e2,cond_false,cond_false,ih]
def o0(rs:List RuI)(i:Nat)(m:KM):Prop:=∀ k,(0<bB eqK k m↔Ay rs i k)/\0<=bB eqK k m/\bB eqK k m<=(i:Int)
theorem o0.next{rs:List RuI}{i:Nat}{m:KM}(h:o0 rs i m){r:RuI}(hr:rs[i]?=some r):o0 rs (i+1) (cu eqK r.1 (bB eqK r.1 m+1) m):=by
 intro k
 rw[DH]
 obtain⟨h1,h2,h3⟩:=h k
 by_cases e:k=r.1
 ·subst e
  rw[if_pos rfl]
  refine⟨⟨λ_=>⟨i,r,by omega,hr,rfl⟩,λ_=>by omega⟩,by omega,by omega⟩
 ·rw[if_neg e,h1]
  refine⟨⟨λ⟨j,r',a1,a2,a3⟩=>⟨j,r',by omega,a2,a3⟩,λ⟨j,r',a1,a2,a3⟩=>?_⟩,by omega,by omega⟩
  by_cases e2:j=i
  ·subst e2
   rw[hr]at a2
   injection a2 with a2
   subst a2
   exact absurd a3.symm e
  ·exact⟨j,r',by omega,a2,a3⟩
theorem JJ{rs:List RuI}{i:Nat}{r:RuI}(hr:rs[i]?=some r)(hok:DG r)(h12:r.2.2.length<=12){m:KM}(hm:o0 rs i m):p88 N0 (r,(m,()))=some ((mT rs i r,()),()):=by
 obtain⟨h1,h2,h3,h4⟩:=hok
 unfold p88
 simp only
 rw[aa (wT h1 h2)]
 simp only
 unfold mT
 cases hn:eG r.1
 ·rw[Bool.not_false,cond_true,if_pos rfl]
 rw[Bool.not_true,cond_false,if_neg (by simp)]
 show(bif decide ((0:Int)<bB eqK r.1 m)then _ else _)=_
 by_cases hd:Ay rs i r.1
 ·rw[decide_eq_true ((hm r.1).1.2 hd),cond_true,if_pos hd]
 rw[decide_eq_false (λh=>hd ((hm r.1).1.1 h)),cond_false,if_neg hd]
 refine aq ((),(decide (r.2.1<0\/2<r.2.1),())) (λK=>?_) ?_
 ·by_cases q1:r.2.1<0
  ·rw[decide_eq_true q1,cond_true,decide_eq_true (.inl q1)]
  ·rw[decide_eq_false q1,cond_false]
   have:decide (r.2.1<0\/2<r.2.1)=decide (2<r.2.1):=by rw[decide_eq_decide];exact⟨λh=>h.resolve_left q1,.inr⟩
   rw[this]
 ·simp only
  by_cases hk2:r.2.1<0\/2<r.2.1
  ·rw[if_pos hk2,decide_eq_true hk2,cond_true]
  ·rw[if_neg hk2,decide_eq_false hk2,cond_false]
   unfold ym
   cases hp:cY r.2.2 with
   |error e=>
    rw[aa (Dx h3 h4 hp)]
    rcases kB hp with rfl|rfl <;> rfl
   |ok t=>
    obtain⟨d,hd2,hd3⟩:=wU h3 h12 hp
    rw[aa hd2]
    simp only
    rw[decide_true,Bool.not_true,cond_false,aa (Dw hd3)]
    simp only
    cases t.null <;> rfl
theorem JK{rs:List RuI}(hs:rs.length<=maxLen)(hok:∀ r∈rs,DG r)(h12:∀ r∈rs,r.2.2.length<=12):p58 N0 (rs,())=some ((((ic rs).1:Int),((ic rs).2,())),()):=by
 unfold p58 ic
 simp only
 by_cases h60:60<rs.length
 ·rw[if_pos h60,decide_eq_true (show(60:Int)<((rs.length:Nat):Int) by omega),cond_true]
 rw[if_neg h60,decide_eq_false (show ¬(60:Int)<((rs.length:Nat):Int) by omega),cond_false]
 refine au (λm x q=>∃ (j:Nat) (mp:KM),x=((mp,()),((j:Int),()))/\m+j=rs.length/\o0 rs j mp/\chk rs j (rs.drop j)=chk rs 0 rs/\q=some ((((chk rs 0 rs).1:Int),((chk rs 0 rs).2,())),())) ?_ N0 rs.length _ _ (by have:=eL hs;omega) ⟨0,[],rfl,rfl,λk=>⟨⟨λh=>absurd h (by simp[bB]),λ⟨j,_,h,_⟩=>by omega⟩,by simp[bB],by simp[bB]⟩,by rw[List.drop_zero],rfl⟩
 rintro m x q ⟨j,mp,rfl,hm,hsn,hch,rfl⟩ k hk
 simp only
 rcases Nat.lt_or_ge j rs.length with hj|hj
 ·have hg:rs[j]?=some rs[j]:=List.getElem?_eq_getElem hj
  have gw:=hok _ (List.getElem_mem hj)
  have HJ:=h12 _ (List.getElem_mem hj)
  rw[List.drop_eq_getElem_cons hj]at hch
  generalize rs[j]=r at hg gw HJ hch
  have n0:(0:Int)<=(j:Int):=by omega
  rw[decide_eq_true (show(j:Int)<((rs.length:Nat):Int) by omega),cond_true,if_pos n0,Int.toNat_natCast,hg]
  simp only
  rw[aa (JJ hg gw HJ hsn)]
  simp only
  simp only[chk]at hch
  by_cases he:mT rs j r=0
  ·rw[if_pos he]at hch
   rw[decide_eq_true he,Bool.not_true,cond_false,aC hj hs]
   show k (((cu eqK r.1 (IntKind.wrap .i64 (bB eqK r.1 mp+1)) mp),()),_)=_
   have e1:IntKind.wrap .i64 (bB eqK r.1 mp+1)=bB eqK r.1 mp+1:=by
    obtain⟨_,q1,q2⟩:=hsn r.1
    obtain⟨u,hu⟩:∃ u:Nat,bB eqK r.1 mp=(u:Int):=⟨_,(Int.toNat_of_nonneg q1).symm⟩
    rw[hu]at q2 |-
    rw[aO (by omega)]
    rfl
   rw[e1]
   exact hk (m-1) _ _ (by omega) ⟨j+1,_,rfl,by omega,hsn.next hg,hch,rfl⟩
  ·rw[if_neg he]at hch
   rw[decide_eq_false he,Bool.not_false,cond_true,<-hch]
 ·have:j=rs.length:=by omega
  subst this
  rw[decide_eq_false (show ¬((rs.length:Nat):Int)<((rs.length:Nat):Int) by omega),cond_false]
  rw[List.drop_length]at hch
  rw[<-hch]
  rfl
end
noncomputable section
abbrev fM:=Bool×Int
abbrev PrI:=Int×(List Int×(List fM×(Bool×(Int×List Int))))
abbrev LvI:=Int×List Int
abbrev GrI:=List RuI×(List (List Int)×(List PrI×(List LvI×Int)))
structure pE(g:GrI):Prop where
 r0:g.1.length<=100000
 r1:∀ r∈g.1,DG r
 s0:g.2.1.length<=100000
 s1:∀ s∈g.2.1,Bytes s/\s.length<=maxLen
 p0:g.2.2.1.length<=100000
 p1:∀ p∈g.2.2.1,Bytes p.2.1/\p.2.1.length<=maxLen
 p2:∀ p∈g.2.2.1,p.2.2.1.length<=100000
 p3:∀ p∈g.2.2.1,p.2.2.2.2.2.length<=100000
 l0:g.2.2.2.1.length<=100000
 l1:∀ l∈g.2.2.2.1,l.2.length<=100000
theorem le_max{n:Nat}(h:n<=100000):n<=maxLen:=by unfold maxLen;omega
theorem eH{n:Nat}(h:n<=100000):n<N0:=by unfold N0;omega
theorem yn{α A R:Type}{body:A->(A->Option R)->Option R}(l:List α)(f:Nat->A)(bad:α->Bool)(found:Nat->Option R)(after:Option R)
 (step:∀ j,(h:j<l.length)->∀ k,body (f j) k=if bad l[j]=true then found j else k (f (j+1))) (fin:∀ k,body (f l.length) k=after) (n:Nat) (hn:l.length<n):
 ap body n (f 0)=match l.findIdx? bad with|some j=>found j|none=>after:=by
 have:=cP (body:=body) f (λj=>match(l.drop j).findIdx? bad with|some i=>found (j+i)|none=>after) l.length (λj hj k hk=>by
  rcases Nat.lt_or_ge j l.length with hi|hi
  ·rw[step j hi,List.drop_eq_getElem_cons hi,List.findIdx?_cons]
   cases hb:bad l[j]
   ·simp only[Bool.false_eq_true,if_false]
    rw[hk hi]
    cases(l.drop (j+1)).findIdx? bad with
    |none=>rfl
    |some i=>simp only[Option.map_some];congr 1;omega
   ·simp
  ·have e:j=l.length:=by omega
   rw[e,fin];simp) n 0 (Nat.zero_le _) (by omega)
 rw[this,List.drop_zero]
 cases l.findIdx? bad with
 |none=>rfl
 |some i=>simp
def bn{α:Type}(E:Nat->α->Int):Nat->List α->Option (Int×Nat)
 |_,[]=>none
 |i,a::r=>if E i a=0 then bn E (i+1) r else some (E i a,i)
theorem mn{α A R:Type}{body:A->(A->Option R)->Option R}(l:List α)(f:Nat->A)(E:Nat->α->Int)(found:Int->Nat->Option R)(after:Option R)
 (step:∀ j,(h:j<l.length)->∀ k,body (f j) k=if E j l[j]=0 then k (f (j+1))else found (E j l[j]) j) (fin:∀ k,body (f l.length) k=after) (n:Nat) (hn:l.length<n):
 ap body n (f 0)=match bn E 0 l with|some p=>found p.1 p.2|none=>after:=by
 have:=cP (body:=body) f (λj=>match bn E j (l.drop j)with|some p=>found p.1 p.2|none=>after) l.length (λj hj k hk=>by
  rcases Nat.lt_or_ge j l.length with hi|hi
  ·rw[step j hi,List.drop_eq_getElem_cons hi]
   simp only[bn]
   by_cases hb:E j l[j]=0
   ·rw[if_pos hb,if_pos hb,hk hi]
   ·rw[if_neg hb,if_neg hb]
  ·have e:j=l.length:=by omega
   rw[e,fin];simp[bn]) n 0 (Nat.zero_le _) (by omega)
 rw[this,List.drop_zero]
theorem ie{α:Type}(l:List α)(i:Nat)(h:i<=l.length):aY l 0 (i:Int)=l.take i:=by
 unfold aY
 simp
def dF(g:GrI)(s:fM):Bool:=
 if s.1=true then decide (0<=s.2)&&decide (s.2<(g.2.1.length:Int))else decide (0<=s.2)&&(match g.1[s.2.toNat]? with|some r=>decide (r.2.1=0)|none=>false)
theorem wV(g:GrI)(s:fM):p92 N0 (g,(s,()))=some ((dF g s,()),()):=by
 obtain⟨b,n⟩:=s
 unfold p92 dF
 simp only
 cases b
 ·simp only[Bool.false_eq_true,if_false,cond_false]
  refine aq ((),(decide (0<=n)&&(match g.1[n.toNat]? with|some r=>decide (r.2.1=0)|none=>false),())) (λK=>?_) rfl
  by_cases h0:0<=n
  ·rw[decide_eq_true h0,cond_true,Bool.true_and]
   by_cases h1:n<((g.1.length:Nat):Int)
   ·rw[decide_eq_true h1,cond_true,if_pos h0,List.getElem?_eq_getElem (show n.toNat<g.1.length by omega)]
   ·rw[decide_eq_false h1,cond_false,List.getElem?_eq_none (show g.1.length<=n.toNat by omega)]
  ·rw[decide_eq_false h0,cond_false,Bool.false_and]
 ·simp only[if_true,cond_true]
  refine aq ((),(decide (0<=n)&&decide (n<(g.2.1.length:Int)),())) (λK=>?_) rfl
  by_cases h0:0<=n
  ·rw[decide_eq_true h0,cond_true,Bool.true_and]
  ·rw[decide_eq_false h0,cond_false,Bool.false_and]
theorem wW(g:GrI)(s:fM):p68 N0 (g,(s,()))=some ((dF g s,()),()):=by
 obtain⟨b,n⟩:=s
 unfold p68 dF
 simp only
 cases b
 ·simp only[Bool.false_eq_true,if_false,cond_false]
  refine aq ((),(decide (0<=n)&&(match g.1[n.toNat]? with|some r=>decide (r.2.1=0)|none=>false),())) (λK=>?_) rfl
  by_cases h0:0<=n
  ·rw[decide_eq_true h0,cond_true,Bool.true_and]
   by_cases h1:n<((g.1.length:Nat):Int)
   ·rw[decide_eq_true h1,cond_true,if_pos h0,List.getElem?_eq_getElem (show n.toNat<g.1.length by omega)]
   ·rw[decide_eq_false h1,cond_false,List.getElem?_eq_none (show g.1.length<=n.toNat by omega)]
  ·rw[decide_eq_false h0,cond_false,Bool.false_and]
 ·simp only[if_true,cond_true]
  refine aq ((),(decide (0<=n)&&decide (n<(g.2.1.length:Int)),())) (λK=>?_) rfl
  by_cases h0:0<=n
  ·rw[decide_eq_true h0,cond_true,Bool.true_and]
  ·rw[decide_eq_false h0,cond_false,Bool.false_and]
def jK(p:PrI):Bool:=match p.2.2.1 with
 |[a,b,c]=>!a.1&&((b.1&&decide (b.2=p.1))&&!c.1)
 |_=>false
theorem HK{p:PrI}(h:¬p.2.2.1.length=3):jK p=false:=by
 unfold jK
 split
 ·rename_i e;rw[e]at h;simp at h
 ·rfl
theorem JL(p:PrI):p93 N0 (p,())=some ((jK p,()),()):=by
 obtain⟨s,c,body,par,pr,hi⟩:=p
 unfold p93
 simp only
 refine aq ((),(jK (s,(c,(body,(par,(pr,hi))))),())) (λK=>?_) rfl
 by_cases h3:body.length=3
 ·rw[decide_eq_true (show((body.length:Nat):Int)=3 by omega),cond_true]
  match body,h3 with
  |[(a1,a2),(b1,b2),(c1,c2)],_=>
   show(if(0:Int)<=0 then _ else _)=_
   rw[if_pos (by omega)]
   show(bif !a1 then _ else _)=_
   cases a1
   ·rw[Bool.not_false,cond_true]
    rw[if_pos (by omega)]
    show(bif(bif(b1 == true)then decide (b2=s)else false)then _ else _)=_
    cases b1
    ·rfl
    ·show(bif decide (b2=s)then _ else _)=_
     by_cases e:b2=s
     ·rw[decide_eq_true e,cond_true,if_pos (by omega)]
      show K ((),(!c1,()))=_
      simp[jK,e]
     ·rw[decide_eq_false e,cond_false]
      simp[jK,e]
   ·rfl
 ·rw[decide_eq_false (show ¬((body.length:Nat):Int)=3 by omega),cond_false,HK h3]
theorem JM(p:PrI):p69 N0 (p,())=some ((jK p,()),()):=by
 obtain⟨s,c,body,par,pr,hi⟩:=p
 unfold p69
 simp only
 refine aq ((),(jK (s,(c,(body,(par,(pr,hi))))),())) (λK=>?_) rfl
 by_cases h3:body.length=3
 ·rw[decide_eq_true (show((body.length:Nat):Int)=3 by omega),cond_true]
  match body,h3 with
  |[(a1,a2),(b1,b2),(c1,c2)],_=>
   show(if(0:Int)<=0 then _ else _)=_
   rw[if_pos (by omega)]
   show(bif !a1 then _ else _)=_
   cases a1
   ·rw[Bool.not_false,cond_true]
    rw[if_pos (by omega)]
    show(bif b1 then _ else _)=_
    cases b1
    ·rfl
    ·rw[cond_true,if_pos (by omega)]
     show(bif decide (b2=s)then _ else _)=_
     by_cases e:b2=s
     ·rw[decide_eq_true e,cond_true,if_pos (by omega)]
      show K ((),(!c1,()))=_
      simp[jK,e]
     ·rw[decide_eq_false e,cond_false]
      simp[jK,e]
   ·rfl
 ·rw[decide_eq_false (show ¬((body.length:Nat):Int)=3 by omega),cond_false,HK h3]
def gq(g:GrI)(i:Nat)(s:List Int):Int:=
 if eG s=false then 8 else if(g.2.1.take i).any (λx=>decide (x=s))||g.1.any (λr=>decide (r.1=s))then 9 else 0
theorem yo{g:GrI}{i:Nat}{s:List Int}(h:eG s=false):gq g i s=8:=by unfold gq;rw[if_pos h]
theorem sa{g:GrI}{i:Nat}{s:List Int}(h:eG s=true)(h2:((g.2.1.take i).any (λx=>decide (x=s))||g.1.any (λr=>decide (r.1=s)))=true):gq g i s=9:=by unfold gq;rw[if_neg (by rw[h];simp),if_pos h2]
theorem yp{g:GrI}{i:Nat}{s:List Int}(h:eG s=true)(h2:((g.2.1.take i).any (λx=>decide (x=s))||g.1.any (λr=>decide (r.1=s)))=false):gq g i s=0:=by unfold gq;rw[if_neg (by rw[h];simp),if_neg (by rw[h2];simp)]
theorem G5{l:List (List Int)}(hl:l.length<=100000)(s:List Int):FZ N0 (l,(s,()))=some ((match l.findIdx? (λx=>decide (x=s))with|some j=>(j:Int)|none=>-1,()),()):=by
 unfold FZ
 simp only
 refine(yn l (λj=>((),((j:Int),()))) (λx=>decide (x=s)) (λj=>some (((j:Int),()),())) (some ((-1,()),())) (λj h k=>?_) (λk=>?_) N0 (eH hl)).trans ?_
 ·simp only
  rw[decide_eq_true (show(j:Int)<((l.length:Nat):Int) by omega),cond_true,if_pos (by omega),Int.toNat_natCast,List.getElem?_eq_getElem h]
  simp only
  by_cases e:l[j]=s
  ·rw[decide_eq_true e.symm,cond_true,decide_eq_true e,if_pos rfl]
  ·rw[decide_eq_false (λh=>e h.symm),cond_false,decide_eq_false e,if_neg (by simp),aC h (le_max hl)]
 ·simp only
  rw[decide_eq_false (by omega),cond_false]
 ·cases l.findIdx? (λx=>decide (x=s)) <;> rfl
theorem DI{α:Type}(l:List α)(f:α->Bool):decide ((0:Int)<=match l.findIdx? f with|some j=>(j:Int)|none=>-1)=l.any f:=by
 cases h:l.findIdx? f with
 |none=>
  rw[List.findIdx?_eq_none_iff]at h
  have:l.any f=false:=by
   rw[List.any_eq_false]
   intro x hx
   simpa using h x hx
  rw[this]
  rfl
 |some j=>
  obtain⟨h1,h2,_⟩:=List.findIdx?_eq_some_iff_getElem.1 h
  have:l.any f=true:=List.any_eq_true.2 ⟨_,List.getElem_mem h1,h2⟩
  rw[this]
  exact decide_eq_true (by simp)
theorem JN{l:List (List Int)}(hl:l.length<=100000)(s:List Int):p90 N0 (l,(s,()))=some ((l.any (λx=>decide (x=s)),()),()):=by
 unfold p90
 simp only
 rw[aa (G5 hl s)]
 simp only
 rw[DI]
theorem JO{l:List RuI}(hl:l.length<=100000)(s:List Int):p91 N0 (l,(s,()))=some ((match l.findIdx? (λr=>decide (r.1=s))with|some j=>(j:Int)|none=>-1,()),()):=by
 unfold p91
 simp only
 refine(yn l (λj=>((),((j:Int),()))) (λr=>decide (r.1=s)) (λj=>some (((j:Int),()),())) (some ((-1,()),())) (λj h k=>?_) (λk=>?_) N0 (eH hl)).trans ?_
 ·simp only
  rw[decide_eq_true (show(j:Int)<((l.length:Nat):Int) by omega),cond_true,if_pos (by omega),Int.toNat_natCast,List.getElem?_eq_getElem h]
  simp only
  by_cases e:l[j].1=s
  ·rw[decide_eq_true e,cond_true,if_pos rfl]
  ·rw[decide_eq_false e,cond_false,if_neg (by simp),aC h (le_max hl)]
 ·simp only
  rw[decide_eq_false (by omega),cond_false]
 ·cases l.findIdx? (λr=>decide (r.1=s)) <;> rfl
abbrev Flt:=Int×(Int×Int)
theorem JP{g:GrI}(ok:pE g):p59 N0 (g,())=some (((if 300<g.2.1.length then((6:Int),((2:Int),(g.2.1.length:Int)))else match bn (gq g) 0 g.2.1 with|some p=>(p.1,((2:Int),(p.2:Int)))|none=>((0:Int),((0:Int),(0:Int)))),()),()):=by
 unfold p59
 simp only
 by_cases h3:300<g.2.1.length
 ·rw[decide_eq_true (show(300:Int)<((g.2.1.length:Nat):Int) by omega),cond_true,if_pos h3]
 rw[decide_eq_false (show ¬(300:Int)<((g.2.1.length:Nat):Int) by omega),cond_false,if_neg h3]
 refine(mn g.2.1 (λj=>((((0:Int),((0:Int),(0:Int))),()),((j:Int),()))) (gq g) (λe j=>some (((e,(2,(j:Int))),()),())) (some (((0,(0,0)),()),())) (λj h k=>?_) (λk=>?_) N0 (eH ok.s0)).trans ?_
 ·simp only
  have hs:=ok.s1 _ (List.getElem_mem h)
  rw[decide_eq_true (show(j:Int)<((g.2.1.length:Nat):Int) by omega),cond_true,if_pos (by omega),Int.toNat_natCast,List.getElem?_eq_getElem h]
  simp only
  generalize g.2.1[j]=s at hs
  rw[aa (wT hs.1 hs.2)]
  simp only
  cases hn:eG s
  ·rw[yo hn,Bool.not_false,cond_true,if_neg (by omega)]
  rw[Bool.not_true,cond_false]
  refine aq ((((0:Int),((0:Int),(0:Int))),()),((g.2.1.take j).any (λx=>decide (x=s))||g.1.any (λr=>decide (r.1=s)),())) (λK=>?_) ?_
  ·rw[if_pos ⟨by omega,by omega,by omega⟩,ie _ _ (by omega),aa (JN (by rw[List.length_take];have:=ok.s0;omega) s)]
   simp only
   cases(g.2.1.take j).any (λx=>decide (x=s))
   ·rw[cond_false,aa (JO ok.r0 s)]
    simp only
    rw[DI,Bool.false_or]
   ·rw[cond_true,Bool.true_or]
  ·simp only
   cases h2:((g.2.1.take j).any (λx=>decide (x=s))||g.1.any (λr=>decide (r.1=s)))
   ·rw[yp hn h2,cond_false,if_pos rfl,aC h (le_max ok.s0)]
   ·rw[sa hn h2,cond_true,if_neg (by omega)]
 ·simp only
  rw[decide_eq_false (by omega),cond_false]
 ·cases bn (gq g) 0 g.2.1 <;> rfl
theorem JQ{g:GrI}(ok:pE g){i:Nat}{s:List Int}(hi:g.2.1[i]?=some s):p36 N0 (g,((i:Int),()))=some ((gq g i s,()),()):=by
 have hlt:i<g.2.1.length:=(List.getElem?_eq_some_iff.1 hi).1
 have hs:=ok.s1 _ (List.mem_of_getElem? hi)
 have h0:=ok.s0
 unfold p36
 simp only
 rw[if_pos (by omega),Int.toNat_natCast,hi]
 simp only
 rw[aa (wS hs.1 hs.2)]
 simp only
 cases hn:eG s
 ·rw[yo hn,Bool.not_false,cond_true]
 rw[Bool.not_true,cond_false]
 have hlen:(g.2.1.take i).length=i:=by rw[List.length_take];omega
 refine(cU (g.2.1.take i) (λx=>!decide (x=s)) (some ((9,()),())) (if g.1.any (λr=>decide (r.1=s))=true then some ((9,()),())else some ((0,()),())) (λj=>((),((j:Int),()))) (λj h k=>?_) (λk=>?_) N0 (by rw[hlen];exact eH (by omega))).trans ?_
 ·simp only
  rw[decide_eq_true (show(j:Int)<(i:Int) by omega),cond_true,if_pos (by omega),Int.toNat_natCast,List.getElem?_eq_getElem (show j<g.2.1.length by omega)]
  simp only
  rw[if_pos (show(0:Int)<=(i:Int) by omega)]
  rw[List.getElem_take]
  by_cases e:g.2.1[j]=s
  ·rw[decide_eq_true e,cond_true,if_neg (by simp)]
  ·rw[decide_eq_false e,cond_false,if_pos (by simp),aC (show j<g.2.1.length by omega) (le_max h0)]
 ·simp only
  rw[hlen,decide_eq_false (by omega),cond_false]
  refine(cU g.1 (λr=>!decide (r.1=s)) (some ((9,()),())) (some ((0,()),())) (λj=>((),((j:Int),()))) (λj h k=>?_) (λk=>?_) N0 (eH ok.r0)).trans ?_
  ·simp only
   rw[decide_eq_true (show(j:Int)<((g.1.length:Nat):Int) by omega),cond_true,if_pos (by omega),Int.toNat_natCast,List.getElem?_eq_getElem h]
   simp only
   rw[if_pos (show(0:Int)<=(i:Int) by omega)]
   by_cases e:g.1[j].1=s
   ·rw[decide_eq_true e,cond_true,if_neg (by simp)]
   ·rw[decide_eq_false e,cond_false,if_pos (by simp),aC h (le_max ok.r0)]
  ·simp only
   rw[decide_eq_false (by omega),cond_false]
  ·have:g.1.all (λr=>!decide (r.1=s))=!g.1.any (λr=>decide (r.1=s)):=by rw[List.not_any_eq_all_not]
   rw[this]
   cases g.1.any (λr=>decide (r.1=s)) <;> rfl
 ·have h1:(g.2.1.take i).all (λr=>!decide (r=s))=!(g.2.1.take i).any (λr=>decide (r=s)):=by rw[List.not_any_eq_all_not]
  rw[h1]
  cases h2:(g.2.1.take i).any (λr=>decide (r=s))
  ·rw[Bool.not_false,if_pos rfl]
   cases h3:g.1.any (λr=>decide (r.1=s))
   ·rw[yp hn (by rw[h2,h3];rfl),if_neg (by simp)]
   ·rw[sa hn (by rw[h2,h3];rfl),if_pos rfl]
  ·rw[sa hn (by rw[h2];rfl),Bool.not_true,if_neg (by simp)]
end
noncomputable section
def ly(h:Int):Bool:=decide (0<=h/\h<=3)
def uP(g:GrI)(p:PrI):Int:=if ¬p.2.2.2.2.1=-1/\dF g (false,p.2.2.2.2.1)=false then 11 else if p.2.2.2.1=true/\jK p=false then 15 else 0
def uQ(g:GrI)(p:PrI):Int:=if p.2.2.2.2.2.all ly=true then uP g p else 1
def qq(g:GrI)(p:PrI):Int:=if p.2.2.1.all (dF g)=true then uQ g p else 11
def ja(g:GrI)(i:Nat)(p:PrI):Int:=
 if p.1<0\/(g.2.1.length:Int)<=p.1 then 11 else if eG p.2.1=false then 8 else if 12<p.2.2.1.length then 6 else if ¬p.2.2.2.2.2.length=p.2.2.1.length-1 then 1
 else if(g.2.2.1.take i).all (λq=>!decide (q.2.1=p.2.1))=true then qq g p else 9
theorem Az{g:GrI}{n:Int}(h:n<0):dF g (false,n)=false:=by
 unfold dF
 rw[if_neg (by simp),decide_eq_false (by omega),Bool.false_and]
theorem qt{n:Nat}(h:n<=100000):IntKind.wrap .i64 ((n:Int)-1)=(n:Int)-1:=aJ (by omega) (by omega)
theorem JR{g:GrI}(ok:pE g){i:Nat}{p:PrI}(hi:g.2.2.1[i]?=some p):p60 N0 (g,((i:Int),()))=some ((ja g i p,()),()):=by
 have hlt:i<g.2.2.1.length:=(List.getElem?_eq_some_iff.1 hi).1
 have hm:=List.mem_of_getElem? hi
 have hs:=ok.p1 _ hm
 have hb:=ok.p2 _ hm
 have hh:=ok.p3 _ hm
 have h0:=ok.p0
 have hlen:(g.2.2.1.take i).length=i:=by rw[List.length_take];omega
 unfold p60
 simp only
 rw[if_pos (by omega),Int.toNat_natCast,hi]
 simp only
 refine aq ((),(decide (p.1<0\/(g.2.1.length:Int)<=p.1),())) (λK=>?_) ?_
 ·by_cases q1:p.1<0
  ·rw[decide_eq_true q1,cond_true,decide_eq_true (.inl q1)]
  ·rw[decide_eq_false q1,cond_false]
   have:decide (p.1<0\/(g.2.1.length:Int)<=p.1)=decide ((g.2.1.length:Int)<=p.1):=by rw[decide_eq_decide];exact⟨λh=>h.resolve_left q1,.inr⟩
   rw[this]
 simp only
 unfold ja
 by_cases e1:p.1<0\/(g.2.1.length:Int)<=p.1
 ·rw[decide_eq_true e1,cond_true,if_pos e1]
 rw[decide_eq_false e1,cond_false,if_neg e1,aa (wT hs.1 hs.2)]
 simp only
 cases e2:eG p.2.1
 ·rw[Bool.not_false,cond_true,if_pos rfl]
 rw[Bool.not_true,cond_false,if_neg (show ¬(true=false) by simp)]
 by_cases e3:12<p.2.2.1.length
 ·rw[decide_eq_true (show(12:Int)<((p.2.2.1.length:Nat):Int) by omega),cond_true,if_pos e3]
 rw[decide_eq_false (show ¬(12:Int)<((p.2.2.1.length:Nat):Int) by omega),cond_false,if_neg e3,qt hb]
 have hw:(if((p.2.2.1.length:Nat):Int)-1<0 then(0:Int)else((p.2.2.1.length:Nat):Int)-1)=((p.2.2.1.length-1:Nat):Int):=by split <;> omega
 rw[hw]
 by_cases e4:p.2.2.2.2.2.length=p.2.2.1.length-1
 case neg=>rw[decide_eq_false (show ¬((p.2.2.2.2.2.length:Nat):Int)=((p.2.2.1.length-1:Nat):Int) by omega),Bool.not_false,cond_true,if_pos e4]
 rw[decide_eq_true (show((p.2.2.2.2.2.length:Nat):Int)=((p.2.2.1.length-1:Nat):Int) by omega),Bool.not_true,cond_false,if_neg (show ¬¬p.2.2.2.2.2.length=p.2.2.1.length-1 from λh=>h e4)]
 rw[if_pos ⟨by omega,by omega,by omega⟩,ie _ _ (by omega)]
 refine cU (g.2.2.1.take i) (λq=>!decide (q.2.1=p.2.1)) (some ((9,()),())) (some ((qq g p,()),())) (λj=>((),((j:Int),()))) (λj h k=>?_) (λk=>?_) N0 (by rw[hlen];exact eH (by omega)) |>.trans ?_
 ·simp only
  rw[decide_eq_true (show(j:Int)<(((g.2.2.1.take i).length:Nat):Int) by omega),cond_true,if_pos (by omega),Int.toNat_natCast,List.getElem?_eq_getElem h]
  simp only
  by_cases e:(g.2.2.1.take i)[j].2.1=p.2.1
  ·rw[decide_eq_true e,cond_true,if_neg (by simp)]
  ·rw[decide_eq_false e,cond_false,if_pos (by simp),aC h (le_max (by omega))]
 ·simp only
  rw[decide_eq_false (by omega),cond_false]
  refine cU p.2.2.1 (dF g) (some ((11,()),())) (some ((uQ g p,()),())) (λj=>((),((j:Int),()))) (λj h k=>?_) (λk=>?_) N0 (eH hb) |>.trans ?_
  ·simp only
   rw[decide_eq_true (show(j:Int)<((p.2.2.1.length:Nat):Int) by omega),cond_true,if_pos (by omega),Int.toNat_natCast,List.getElem?_eq_getElem h]
   simp only
   rw[aa (wV g _)]
   simp only
   cases dF g p.2.2.1[j]
   ·rw[Bool.not_false,cond_true,if_neg (by simp)]
   ·rw[Bool.not_true,cond_false,if_pos rfl,aC h (le_max hb)]
  ·simp only
   rw[decide_eq_false (by omega),cond_false]
   refine cU p.2.2.2.2.2 ly (some ((1,()),())) (some ((uP g p,()),())) (λj=>((),((j:Int),()))) (λj h k=>?_) (λk=>?_) N0 (eH hh) |>.trans ?_
   ·simp only
    rw[decide_eq_true (show(j:Int)<((p.2.2.2.2.2.length:Nat):Int) by omega),cond_true,if_pos (by omega),Int.toNat_natCast,List.getElem?_eq_getElem h]
    simp only
    generalize p.2.2.2.2.2[j]=v
    refine aq ((),(!ly v,())) (λK=>?_) ?_
    ·unfold ly
     by_cases q1:v<0
     ·rw[decide_eq_true q1,cond_true,decide_eq_false (by omega)];rfl
     ·rw[decide_eq_false q1,cond_false]
      have:(!decide (0<=v/\v<=3))=decide (3<v):=by
       rw[<-decide_not,decide_eq_decide];omega
      rw[this]
    ·simp only
     cases ly v
     ·rw[Bool.not_false,cond_true,if_neg (by simp)]
     ·rw[Bool.not_true,cond_false,if_pos rfl,aC h (le_max hh)]
   ·simp only
    rw[decide_eq_false (by omega),cond_false]
    unfold uP
    refine aq ((),(decide (¬p.2.2.2.2.1=-1/\dF g (false,p.2.2.2.2.1)=false),())) (λK=>?_) ?_
    ·by_cases q1:p.2.2.2.2.1=-1
     ·rw[decide_eq_true q1,Bool.not_true,cond_false,decide_eq_false (λh=>h.1 q1)]
     ·rw[decide_eq_false q1,Bool.not_false,cond_true]
      by_cases q2:p.2.2.2.2.1<0
      ·rw[decide_eq_true q2,cond_true,decide_eq_true ⟨q1,Az q2⟩]
      ·rw[decide_eq_false q2,cond_false,aa (wV g _)]
       simp only
       cases dF g (false,p.2.2.2.2.1)
       ·rw[decide_eq_true ⟨q1,rfl⟩];rfl
       ·rw[decide_eq_false (λh=>by cases h.2)];rfl
    ·simp only
     by_cases q1:¬p.2.2.2.2.1=-1/\dF g (false,p.2.2.2.2.1)=false
     ·rw[decide_eq_true q1,cond_true,if_pos q1]
     rw[decide_eq_false q1,cond_false,if_neg q1]
     refine aq ((),(decide (p.2.2.2.1=true/\jK p=false),())) (λK=>?_) ?_
     ·cases hp:p.2.2.2.1
      ·rw[cond_false,decide_eq_false (λh=>by cases h.1)]
      ·rw[cond_true,aa (JL p)]
       simp only
       cases jK p <;> simp
     ·simp only
      by_cases q2:p.2.2.2.1=true/\jK p=false
      ·rw[decide_eq_true q2,cond_true,if_pos q2]
      ·rw[decide_eq_false q2,cond_false,if_neg q2]
   ·unfold uQ;split <;> rfl
  ·unfold qq;split <;> rfl
 ·split <;> rfl
theorem JS{g:GrI}(ok:pE g){i:Nat}{p:PrI}(hi:g.2.2.1[i]?=some p):p37 N0 (g,((i:Int),()))=some ((ja g i p,()),()):=by
 have hlt:i<g.2.2.1.length:=(List.getElem?_eq_some_iff.1 hi).1
 have hm:=List.mem_of_getElem? hi
 have hs:=ok.p1 _ hm
 have hb:=ok.p2 _ hm
 have hh:=ok.p3 _ hm
 have h0:=ok.p0
 have hlen:(g.2.2.1.take i).length=i:=by rw[List.length_take];omega
 unfold p37
 simp only
 rw[if_pos (by omega),Int.toNat_natCast,hi]
 simp only
 refine aq ((),(decide (p.1<0\/(g.2.1.length:Int)<=p.1),())) (λK=>?_) ?_
 ·by_cases q1:p.1<0
  ·rw[decide_eq_true q1,cond_true,decide_eq_true (.inl q1)]
  ·rw[decide_eq_false q1,cond_false]
   have:decide (p.1<0\/(g.2.1.length:Int)<=p.1)=decide ((g.2.1.length:Int)<=p.1):=by rw[decide_eq_decide];exact⟨λh=>h.resolve_left q1,.inr⟩
   rw[this]
 simp only
 unfold ja
 by_cases e1:p.1<0\/(g.2.1.length:Int)<=p.1
 ·rw[decide_eq_true e1,cond_true,if_pos e1]
 rw[decide_eq_false e1,cond_false,if_neg e1,aa (wS hs.1 hs.2)]
 simp only
 cases e2:eG p.2.1
 ·rw[Bool.not_false,cond_true,if_pos rfl]
 rw[Bool.not_true,cond_false,if_neg (show ¬(true=false) by simp)]
 by_cases e3:12<p.2.2.1.length
 ·rw[decide_eq_true (show(12:Int)<((p.2.2.1.length:Nat):Int) by omega),cond_true,if_pos e3]
 rw[decide_eq_false (show ¬(12:Int)<((p.2.2.1.length:Nat):Int) by omega),cond_false,if_neg e3,qt hb]
 have hw:(if(0:Int)<((p.2.2.1.length:Nat):Int)-1 then((p.2.2.1.length:Nat):Int)-1 else(0:Int))=((p.2.2.1.length-1:Nat):Int):=by split <;> omega
 rw[hw]
 by_cases e4:p.2.2.2.2.2.length=p.2.2.1.length-1
 case neg=>rw[decide_eq_false (show ¬((p.2.2.2.2.2.length:Nat):Int)=((p.2.2.1.length-1:Nat):Int) by omega),Bool.not_false,cond_true,if_pos e4]
 rw[decide_eq_true (show((p.2.2.2.2.2.length:Nat):Int)=((p.2.2.1.length-1:Nat):Int) by omega),Bool.not_true,cond_false,if_neg (show ¬¬p.2.2.2.2.2.length=p.2.2.1.length-1 from λh=>h e4)]
 refine cU (g.2.2.1.take i) (λq=>!decide (q.2.1=p.2.1)) (some ((9,()),())) (some ((qq g p,()),())) (λj=>((),((j:Int),()))) (λj h k=>?_) (λk=>?_) N0 (by rw[hlen];exact eH (by omega)) |>.trans ?_
 ·simp only
  rw[decide_eq_true (show(j:Int)<(i:Int) by omega),cond_true,if_pos (by omega),Int.toNat_natCast,List.getElem?_eq_getElem (show j<g.2.2.1.length by omega)]
  simp only
  rw[List.getElem_take]
  by_cases e:g.2.2.1[j].2.1=p.2.1
  ·rw[decide_eq_true e,cond_true,if_neg (by simp)]
  ·rw[decide_eq_false e,cond_false,if_pos (by simp),aC h (le_max (by omega))]
 ·simp only
  rw[hlen,decide_eq_false (by omega),cond_false]
  refine cU p.2.2.1 (dF g) (some ((11,()),())) (some ((uQ g p,()),())) (λj=>((),((j:Int),()))) (λj h k=>?_) (λk=>?_) N0 (eH hb) |>.trans ?_
  ·simp only
   rw[decide_eq_true (show(j:Int)<((p.2.2.1.length:Nat):Int) by omega),cond_true,if_pos (by omega),Int.toNat_natCast,List.getElem?_eq_getElem h]
   simp only
   rw[aa (wW g _)]
   simp only
   cases dF g p.2.2.1[j]
   ·rw[Bool.not_false,cond_true,if_neg (by simp)]
   ·rw[Bool.not_true,cond_false,if_pos rfl,aC h (le_max hb)]
  ·simp only
   rw[decide_eq_false (by omega),cond_false]
   refine cU p.2.2.2.2.2 ly (some ((1,()),())) (some ((uP g p,()),())) (λj=>((),((j:Int),()))) (λj h k=>?_) (λk=>?_) N0 (eH hh) |>.trans ?_
   ·simp only
    rw[decide_eq_true (show(j:Int)<((p.2.2.2.2.2.length:Nat):Int) by omega),cond_true]
    have hg:p.2.2.2.2.2[((j:Int)).toNat]?=some p.2.2.2.2.2[j]:=by rw[Int.toNat_natCast];exact List.getElem?_eq_getElem h
    rw[hg]
    generalize p.2.2.2.2.2[j]=v
    simp only
    refine aq ((),(!ly v,())) (λK=>?_) ?_
    ·rw[if_pos (by omega)]
     unfold ly
     by_cases q1:v<0
     ·rw[decide_eq_true q1,cond_true,decide_eq_false (by omega)];rfl
     ·rw[decide_eq_false q1,cond_false]
      have:(!decide (0<=v/\v<=3))=decide (3<v):=by
       rw[<-decide_not,decide_eq_decide];omega
      rw[this,if_pos (by omega)]
    ·simp only
     cases ly v
     ·rw[Bool.not_false,cond_true,if_neg (by simp)]
     ·rw[Bool.not_true,cond_false,if_pos rfl,aC h (le_max hh)]
   ·simp only
    rw[decide_eq_false (by omega),cond_false]
    unfold uP
    refine aq ((),(decide (¬p.2.2.2.2.1=-1/\dF g (false,p.2.2.2.2.1)=false),())) (λK=>?_) ?_
    ·by_cases q1:p.2.2.2.2.1=-1
     ·rw[decide_eq_true q1,Bool.not_true,cond_false,decide_eq_false (λh=>h.1 q1)]
     ·rw[decide_eq_false q1,Bool.not_false,cond_true,aa (wW g _)]
      simp only
      cases dF g (false,p.2.2.2.2.1)
      ·rw[decide_eq_true ⟨q1,rfl⟩];rfl
      ·rw[decide_eq_false (λh=>by cases h.2)];rfl
    ·simp only
     by_cases q1:¬p.2.2.2.2.1=-1/\dF g (false,p.2.2.2.2.1)=false
     ·rw[decide_eq_true q1,cond_true,if_pos q1]
     rw[decide_eq_false q1,cond_false,if_neg q1]
     refine aq ((),(decide (p.2.2.2.1=true/\jK p=false),())) (λK=>?_) ?_
     ·cases hp:p.2.2.2.1
      ·rw[cond_false,decide_eq_false (λh=>by cases h.1)]
      ·rw[cond_true,aa (JM p)]
       simp only
       cases jK p <;> simp
     ·simp only
      by_cases q2:p.2.2.2.1=true/\jK p=false
      ·rw[decide_eq_true q2,cond_true,if_pos q2]
      ·rw[decide_eq_false q2,cond_false,if_neg q2]
   ·unfold uQ;split <;> rfl
  ·unfold qq;split <;> rfl
 ·split <;> rfl
end
noncomputable section
def ahead(g:GrI)(i:Nat):List Int:=(g.2.2.2.1.take i).flatMap λl=>l.2
theorem o3{g:GrI}{i:Nat}{l:LvI}(h:g.2.2.2.1[i]?=some l):ahead g (i+1)=ahead g i++l.2:=by
 unfold ahead
 rw[List.take_add_one,h]
 simp
def o4(g:GrI)(i:Nat)(l:LvI)(k:Nat)(r:Int):Int:=
 if dF g (false,r)=false then 11 else if r∈ahead g i++l.2.take k then 9 else 0
def lz(g:GrI)(i:Nat)(l:LvI):Int:=
 if l.1<1\/3<l.1\/l.2.length=0\/60<=i then 1 else match bn (o4 g i l) 0 l.2 with|some p=>p.1|none=>0
abbrev IM:=List (Int×Int)
def eqZ:Int->Int->Bool:=λa b=>decide (a=b)
theorem AA(k k' v:Int):∀ x:IM,bB eqZ k (cu eqZ k' v x)=if k=k' then v else bB eqZ k x:=by
 intro x
 induction x with
 |nil=>
  simp only[cu,bB,eqZ]
  by_cases e:k=k' <;> simp[e]
 |cons p r ih=>
  simp only[cu]
  by_cases e:k'=p.1
  ·have:eqZ k' p.1=true:=decide_eq_true e
   rw[this,cond_true]
   simp only[bB]
   rw[<-e]
   by_cases e2:k=k'
   ·rw[show eqZ k k'=true from decide_eq_true e2,if_pos e2];rfl
   ·rw[show eqZ k k'=false from decide_eq_false e2,if_neg e2];rfl
  ·have:eqZ k' p.1=false:=decide_eq_false e
   rw[this,cond_false]
   simp only[bB]
   by_cases e2:k=p.1
   ·rw[show eqZ k p.1=true from decide_eq_true e2,cond_true,cond_true]
    rw[if_neg]
    rintro rfl
    exact e e2
   ·rw[show eqZ k p.1=false from decide_eq_false e2,cond_false,cond_false,ih]
def uR(L:List Int)(m:IM):Prop:=∀ k,bB eqZ k m=if k∈L then 1 else 0
theorem uR.next{L:List Int}{m:IM}(h:uR L m){r:Int}(hr:¬r∈L):uR (L++[r]) (cu eqZ r (IntKind.wrap .i64 (bB eqZ r m+1)) m):=by
 intro k
 rw[AA,h r,if_neg hr]
 by_cases e:k=r
 ·subst e;simp;rfl
 ·rw[if_neg e,h k];simp[e]
theorem yq{α A R:Type}{body:A->(A->Option R)->Option R}(l:List α)(I:Nat->A->Prop)(spec:Nat->Option R)
 (step:∀ j,(h:j<l.length)->∀ x,I j x->∀ k,(∀ y,I (j+1) y->k y=spec (j+1))->body x k=spec j) (fin:∀ x,I l.length x->∀ k,body x k=spec l.length):
 ∀ n j x,j<=l.length->l.length-j<n->I j x->ap body n x=spec j:=by
 intro n
 induction n with
 |zero=>intro j x _ h;omega
 |succ n ih=>
  intro j x hj hn hi
  rw[bL]
  rcases Nat.lt_or_ge j l.length with h|h
  ·exact step j h x hi _ (λy hy=>ih (j+1) y h (by omega) hy)
  ·have:j=l.length:=by omega
   subst this
   exact fin x hi _
theorem JT{g:GrI}(ok:pE g):p61 N0 (g,())=some (((match bn (lz g) 0 g.2.2.2.1 with|some p=>(p.1,((4:Int),(p.2:Int)))|none=>((0:Int),((0:Int),(0:Int)))),()),()):=by
 unfold p61
 simp only
 rw[show(λ(a b:Int)=>decide (a=b))=eqZ from rfl]
 refine(yq g.2.2.2.1 (λj x=>∃ m:IM,x=((((0:Int),((0:Int),(0:Int))),(m,())),((j:Int),()))/\uR (ahead g j) m) (λj=>some (((match bn (lz g) j (g.2.2.2.1.drop j)with|some p=>(p.1,((4:Int),(p.2:Int)))|none=>((0:Int),((0:Int),(0:Int)))),()),())) (λj h x hx k hk=>?_) (λx hx k=>?_) N0 0 _ (Nat.zero_le _) (by rw[Nat.sub_zero];exact eH ok.l0) ⟨[],rfl,λk=>by simp[bB,ahead]⟩).trans (by rw[List.drop_zero])
 ·obtain⟨m,rfl,hm⟩:=hx
  simp only
  have hl:=ok.l1 _ (List.getElem_mem h)
  have hg:g.2.2.2.1[j]?=some g.2.2.2.1[j]:=List.getElem?_eq_getElem h
  rw[decide_eq_true (show(j:Int)<((g.2.2.2.1.length:Nat):Int) by omega),cond_true,if_pos (by omega),Int.toNat_natCast,hg,List.drop_eq_getElem_cons h]
  generalize g.2.2.2.1[j]=l at hl hg
  simp only
  refine aq ((((0:Int),((0:Int),(0:Int))),(m,())),(decide (l.1<1\/3<l.1\/l.2.length=0\/60<=j),())) (λK=>?_) ?_
  ·by_cases q1:l.1<1
   ·rw[decide_eq_true q1,cond_true,decide_eq_true (.inl q1)]
   rw[decide_eq_false q1,cond_false]
   by_cases q2:3<l.1
   ·rw[decide_eq_true q2,cond_true,decide_eq_true (.inr (.inl q2))]
   rw[decide_eq_false q2,cond_false]
   by_cases q3:l.2.length=0
   ·rw[decide_eq_true (show((l.2.length:Nat):Int)=0 by omega),cond_true,decide_eq_true (.inr (.inr (.inl q3)))]
   rw[decide_eq_false (show ¬((l.2.length:Nat):Int)=0 by omega),cond_false]
   have:decide ((60:Int)<=(j:Int))=decide (l.1<1\/3<l.1\/l.2.length=0\/60<=j):=by rw[decide_eq_decide];omega
   rw[this]
  ·simp only
   simp only[bn]
   by_cases q:l.1<1\/3<l.1\/l.2.length=0\/60<=j
   ·have e1:lz g j l=1:=by unfold lz;rw[if_pos q]
    rw[decide_eq_true q,cond_true,e1,if_neg (by omega)]
   have e1:lz g j l=match bn (o4 g j l) 0 l.2 with|some p=>p.1|none=>0:=by unfold lz;rw[if_neg q]
   rw[decide_eq_false q,cond_false]
   have hz:∀ k,o4 g j l k=λr=>o4 g j l k r:=λ_=>rfl
   refine(yq l.2 (λi x=>∃ m:IM,x=((((0:Int),((0:Int),(0:Int))),(m,())),((i:Int),()))/\uR (ahead g j++l.2.take i) m) (λi=>match bn (o4 g j l) i (l.2.drop i)with|some p=>some (((p.1,((4:Int),(j:Int))),()),())|none=>some (((match bn (lz g) (j+1) (g.2.2.2.1.drop (j+1))with|some p=>(p.1,((4:Int),(p.2:Int)))|none=>((0:Int),((0:Int),(0:Int)))),()),())) (λi hi x hx k2 hk2=>?_) (λx hx k2=>?_) N0 0 _ (Nat.zero_le _) (by rw[Nat.sub_zero];exact eH hl) ⟨m,rfl,by rw[List.take_zero,List.append_nil];exact hm⟩).trans ?_
   ·obtain⟨m,rfl,hm⟩:=hx
    simp only
    have hgi:l.2[i]?=some l.2[i]:=List.getElem?_eq_getElem hi
    have htk:l.2.take (i+1)=l.2.take i++[l.2[i]]:=by rw[List.take_add_one,hgi];rfl
    rw[decide_eq_true (show(i:Int)<((l.2.length:Nat):Int) by omega),cond_true,if_pos (by omega),Int.toNat_natCast,hgi,List.drop_eq_getElem_cons hi]
    generalize l.2[i]=r at htk
    simp only
    rw[aa (wV g _)]
    simp only[bn]
    unfold o4
    cases hs:dF g (false,r)
    ·rw[Bool.not_false,cond_true,if_pos rfl,if_neg (by omega)]
    rw[Bool.not_true,cond_false,if_neg (show ¬(true=false) by simp),hm r]
    by_cases hr:r∈ahead g j++l.2.take i
    ·rw[if_pos hr,if_pos hr,show decide ((0:Int)<1)=true from rfl,cond_true,if_neg (by omega)]
    ·rw[if_neg hr,if_neg hr,show decide ((0:Int)<0)=false from rfl,cond_false,if_pos rfl,aC hi (le_max hl)]
     have hn:=hm.next hr
     rw[hm r,if_neg hr]at hn
     exact hk2 _ ⟨_,rfl,by rw[htk,<-List.append_assoc];exact hn⟩
   ·obtain⟨m,rfl,hm⟩:=hx
    simp only
    rw[decide_eq_false (by omega),cond_false,aC h (le_max ok.l0),List.drop_length]
    simp only[bn]
    rw[List.take_length]at hm
    exact hk _ ⟨m,rfl,by rw[o3 hg];exact hm⟩
   ·rw[List.drop_zero]
    rw[e1]
    have hne:∀ (l':List Int) (i:Nat) (p:Int×Nat),bn (o4 g j l) i l'=some p->¬p.1=0:=by
     intro l'
     induction l' with
     |nil=>intro i p h;cases h
     |cons a r ih=>
      intro i p h
      simp only[bn]at h
      split at h
      ·exact ih _ _ h
      ·rename_i hn;injection h with h;rw[<-h];exact hn
    cases hf:bn (o4 g j l) 0 l.2 with
    |none=>simp only[if_true]
    |some p=>
     simp only
     rw[if_neg (hne _ _ _ hf)]
 ·obtain⟨m,rfl,hm⟩:=hx
  simp only
  rw[decide_eq_false (by omega),cond_false,List.drop_length]
  rfl
end
noncomputable section
theorem AB{g:GrI}{i:Nat}{r:Int}:r∈ahead g i↔∃ a l,a<i/\g.2.2.2.1[a]?=some l/\r∈l.2:=by
 unfold ahead
 rw[List.mem_flatMap]
 constructor
 ·rintro⟨l,h1,h2⟩
  obtain⟨a,ha⟩:=List.mem_iff_getElem?.1 h1
  rw[List.getElem?_take]at ha
  split at ha
  ·exact⟨a,l,by assumption,ha,h2⟩
  ·cases ha
 ·rintro⟨a,l,h1,h2,h3⟩
  refine⟨l,List.mem_iff_getElem?.2 ⟨a,?_⟩,h3⟩
  rw[List.getElem?_take,if_pos h1,h2]
theorem JU{g:GrI}(ok:pE g){i:Nat}{l:LvI}(hi:g.2.2.2.1[i]?=some l){k:Nat}{r:Int}(hk:l.2[k]?=some r):p70 N0 (g,((i:Int),((k:Int),())))=some ((decide (r∈ahead g i++l.2.take k),()),()):=by
 have hlt:i<g.2.2.2.1.length:=(List.getElem?_eq_some_iff.1 hi).1
 have hkt:k<l.2.length:=(List.getElem?_eq_some_iff.1 hk).1
 have h0:=ok.l0
 unfold p70
 simp only
 refine au (λm x q=>∃ a:Nat,x=((),((a:Int),()))/\m+a=i+1/\a<=i/\¬r∈ahead g a/\q=some ((decide (r∈ahead g i++l.2.take k),()),())) ?_ N0 (i+1) _ _ (by unfold N0;omega) ⟨0,rfl,rfl,Nat.zero_le _,by simp[ahead],rfl⟩
 rintro m x q ⟨a,rfl,hm,hai,hna,rfl⟩ kk hkk
 simp only
 rw[decide_eq_true (show(a:Int)<=(i:Int) by omega),cond_true]
 have ha:g.2.2.2.1[a]?=some (g.2.2.2.1[a]'(by omega)):=List.getElem?_eq_getElem _
 have hla:=ok.l1 _ (List.getElem_mem (show a<g.2.2.2.1.length by omega))
 generalize g.2.2.2.1[a]'(by omega)=la at ha hla
 simp only[Int.toNat_natCast,ha,hi]
 refine au (λm x q=>∃ b:Nat,x=((),((b:Int),()))/\m+b=la.2.length/\¬r∈la.2.take b/\(a=i->b<=k)/\q=some ((decide (r∈ahead g i++l.2.take k),()),())) ?_ N0 la.2.length _ _ (by unfold N0;omega) ⟨0,rfl,rfl,by simp,λ_=>Nat.zero_le _,rfl⟩
 rintro m2 x q ⟨b,rfl,hm2,hnb,hbk,rfl⟩ k2 hk2
 simp only[Int.toNat_natCast]
 rw[if_pos (by omega)]
 rcases Nat.lt_or_ge b la.2.length with hb|hb
 ·rw[decide_eq_true (show(b:Int)<((la.2.length:Nat):Int) by omega),cond_true]
  have hgb:la.2[b]?=some la.2[b]:=List.getElem?_eq_getElem hb
  have htk:la.2.take (b+1)=la.2.take b++[la.2[b]]:=by rw[List.take_add_one,hgb];rfl
  have hin:la.2[b]∈la.2:=List.getElem_mem hb
  simp only[hgb,hk]
  generalize la.2[b]=rb at htk hin hgb
  refine aq ((),(decide (a=i/\k<=b),())) (λK=>?_) ?_
  ·by_cases e:a=i
   ·rw[decide_eq_true (show(a:Int)=(i:Int) by omega),cond_true]
    have:decide ((k:Int)<=(b:Int))=decide (a=i/\k<=b):=by rw[decide_eq_decide];omega
    rw[this]
   ·rw[decide_eq_false (show ¬(a:Int)=(i:Int) by omega),cond_false,decide_eq_false (λh=>e h.1)]
  ·simp only
   by_cases e:a=i/\k<=b
   ·rw[decide_eq_true e,cond_true]
    obtain⟨rfl,hkb⟩:=e
    have hbk:=hbk rfl
    have:b=k:=by omega
    subst this
    rw[hi]at ha
    injection ha with ha
    subst ha
    rw[decide_eq_false (λh=>(List.mem_append.1 h).elim hna hnb)]
   ·rw[decide_eq_false e,cond_false,if_pos (by omega),if_pos (by omega),if_pos (by omega),if_pos (by omega)]
    by_cases er:rb=r
    ·subst er
     rw[decide_eq_true rfl,cond_true,decide_eq_true]
     by_cases eai:a=i
     ·subst eai
      rw[hi]at ha
      injection ha with ha
      subst ha
      refine List.mem_append.2 (.inr (List.mem_iff_getElem?.2 ⟨b,?_⟩))
      rw[List.getElem?_take,if_pos (by omega),hgb]
     ·exact List.mem_append.2 (.inl (AB.2 ⟨a,la,by omega,ha,hin⟩))
    ·rw[decide_eq_false er,cond_false,aC hb (le_max hla)]
     refine hk2 (m2-1) _ _ (by omega) ⟨b+1,rfl,by omega,?_,λh=>by omega,rfl⟩
     rw[htk]
     intro h
     rcases List.mem_append.1 h with h|h
     ·exact hnb h
     ·simp at h;exact er h.symm
 ·rw[decide_eq_false (show ¬(b:Int)<((la.2.length:Nat):Int) by omega),cond_false,aC (show a<g.2.2.2.1.length by omega) (le_max h0)]
  have:b=la.2.length:=by omega
  subst this
  rw[List.take_length]at hnb
  have B8:¬r∈ahead g (a+1):=by
   rw[o3 ha]
   intro h
   exact(List.mem_append.1 h).elim hna hnb
  have PP:a<i:=by
   rcases Nat.lt_or_ge a i with h|h
   ·exact h
   ·exfalso
    have:a=i:=by omega
    subst this
    rw[hi]at ha
    injection ha with ha
    subst ha
    have:=hbk rfl
    omega
  exact hkk (m-1) _ _ (by omega) ⟨a+1,rfl,by omega,by omega,B8,rfl⟩
theorem JV{g:GrI}(ok:pE g){i:Nat}{l:LvI}(hi:g.2.2.2.1[i]?=some l):p38 N0 (g,((i:Int),()))=some ((lz g i l,()),()):=by
 have hl:=ok.l1 _ (List.mem_of_getElem? hi)
 unfold p38
 simp only
 rw[if_pos (by omega),Int.toNat_natCast,hi]
 simp only
 refine aq ((),(decide (l.1<1\/3<l.1\/l.2.length=0\/60<=i),())) (λK=>?_) ?_
 ·by_cases q1:l.1<1
  ·rw[decide_eq_true q1,cond_true,decide_eq_true (.inl q1)]
  rw[decide_eq_false q1,cond_false]
  by_cases q2:3<l.1
  ·rw[decide_eq_true q2,cond_true,decide_eq_true (.inr (.inl q2))]
  rw[decide_eq_false q2,cond_false]
  by_cases q3:l.2.length=0
  ·rw[decide_eq_true (show((l.2.length:Nat):Int)=0 by omega),cond_true,decide_eq_true (.inr (.inr (.inl q3)))]
  rw[decide_eq_false (show ¬((l.2.length:Nat):Int)=0 by omega),cond_false]
  have:decide ((60:Int)<=(i:Int))=decide (l.1<1\/3<l.1\/l.2.length=0\/60<=i):=by rw[decide_eq_decide];omega
  rw[this]
 ·simp only
  unfold lz
  by_cases q:l.1<1\/3<l.1\/l.2.length=0\/60<=i
  ·rw[decide_eq_true q,cond_true,if_pos q]
  rw[decide_eq_false q,cond_false,if_neg q]
  refine(mn l.2 (λj=>((),((j:Int),()))) (o4 g i l) (λe _=>some ((e,()),())) (some ((0,()),())) (λj h k=>?_) (λk=>?_) N0 (eH hl)).trans ?_
  ·simp only
   have hg:l.2[j]?=some l.2[j]:=List.getElem?_eq_getElem h
   rw[decide_eq_true (show(j:Int)<((l.2.length:Nat):Int) by omega),cond_true,if_pos (by omega),Int.toNat_natCast,hg]
   generalize l.2[j]=r at hg
   simp only
   rw[aa (wW g _)]
   simp only
   unfold o4
   cases hs:dF g (false,r)
   ·rw[Bool.not_false,cond_true,if_pos rfl,if_neg (by omega)]
   rw[Bool.not_true,cond_false,if_neg (show ¬(true=false) by simp),aa (JU ok hi hg)]
   simp only
   by_cases hr:r∈ahead g i++l.2.take j
   ·rw[if_pos hr,decide_eq_true hr,cond_true,if_neg (by omega)]
   ·rw[if_neg hr,decide_eq_false hr,cond_false,if_pos rfl,aC h (le_max hl)]
  ·simp only
   rw[decide_eq_false (by omega),cond_false]
  ·cases bn (o4 g i l) 0 l.2 <;> rfl
def uS(g:GrI):Flt:=if g.2.2.2.2<0\/(g.2.1.length:Int)<=g.2.2.2.2 then(11,(5,0))else(0,(0,0))
def qu(g:GrI):Flt:=match bn (lz g) 0 g.2.2.2.1 with
 |some p=>(p.1,(4,(p.2:Int)))
 |none=>uS g
def uT(g:GrI):Flt:=if 200<g.2.2.1.length then(6,(3,(g.2.2.1.length:Int)))else match bn (ja g) 0 g.2.2.1 with
 |some p=>(p.1,(3,(p.2:Int)))
 |none=>qu g
def uU(g:GrI):Flt:=if 300<g.2.1.length then(6,(2,(g.2.1.length:Int)))else match bn (gq g) 0 g.2.1 with
 |some p=>(p.1,(2,(p.2:Int)))
 |none=>uT g
def dP(g:GrI):Flt:=
 if ¬(ic g.1).2=0 then((ic g.1).2,(1,((ic g.1).1:Int)))else uU g
def gP(v:Flt):Option ((Int×(Int×(Int×Unit)))×Unit):=some ((v.1,(v.2.1,(v.2.2,()))),())
theorem ig{α:Type}{E:Nat->α->Int}:∀ {l:List α} {i:Nat} {p:Int×Nat},bn E i l=some p->¬p.1=0:=by
 intro l
 induction l with
 |nil=>intro i p h;cases h
 |cons a r ih=>
  intro i p h
  simp only[bn]at h
  split at h
  ·exact ih h
  ·rename_i hn;injection h with h;rw[<-h];exact hn
theorem DJ{g:GrI}(ok:pE g)(h12:∀ r∈g.1,r.2.2.length<=12):p31 N0 (g,())=some ((dP g,()),()):=by
 unfold p31 dP
 simp only
 rw[aa (JK (le_max ok.r0) ok.r1 h12)]
 simp only
 by_cases e1:(ic g.1).2=0
 case neg=>rw[decide_eq_false e1,Bool.not_false,cond_true,if_pos e1]
 rw[decide_eq_true e1,Bool.not_true,cond_false,if_neg (show ¬¬(ic g.1).2=0 from λh=>h e1),aa (JP ok)]
 simp only
 unfold uU
 by_cases e2:300<g.2.1.length
 ·rw[if_pos e2,if_pos e2];rfl
 rw[if_neg e2,if_neg e2]
 cases e3:bn (gq g) 0 g.2.1 with
 |some p=>
  simp only
  rw[decide_eq_false (ig e3),Bool.not_false,cond_true]
 |none=>
 simp only
 rw[decide_true,Bool.not_true,cond_false]
 unfold uT
 by_cases e4:200<g.2.2.1.length
 ·rw[decide_eq_true (show(200:Int)<((g.2.2.1.length:Nat):Int) by omega),cond_true,if_pos e4]
 rw[decide_eq_false (show ¬(200:Int)<((g.2.2.1.length:Nat):Int) by omega),cond_false,if_neg e4]
 refine(mn g.2.2.1 (λj=>((((0:Int),((0:Int),(0:Int))),()),((j:Int),()))) (ja g) (λe j=>some (((e,(3,(j:Int))),()),())) (some ((qu g,()),())) (λj h k=>?_) (λk=>?_) N0 (eH ok.p0)).trans ?_
 ·simp only
  rw[decide_eq_true (show(j:Int)<((g.2.2.1.length:Nat):Int) by omega),cond_true,aa (JR ok (List.getElem?_eq_getElem h))]
  simp only
  by_cases e:ja g j g.2.2.1[j]=0
  ·rw[decide_eq_true e,Bool.not_true,cond_false,if_pos e,aC h (le_max ok.p0)]
  ·rw[decide_eq_false e,Bool.not_false,cond_true,if_neg e]
 ·simp only
  rw[decide_eq_false (by omega),cond_false,aa (JT ok)]
  simp only
  unfold qu
  cases e5:bn (lz g) 0 g.2.2.2.1 with
  |some p=>
   simp only
   rw[decide_eq_false (ig e5),Bool.not_false,cond_true]
  |none=>
   simp only
   rw[decide_true,Bool.not_true,cond_false]
   refine aq ((((0:Int),((0:Int),(0:Int))),()),(decide (g.2.2.2.2<0\/(g.2.1.length:Int)<=g.2.2.2.2),())) (λK=>?_) ?_
   ·by_cases q1:g.2.2.2.2<0
    ·rw[decide_eq_true q1,cond_true,decide_eq_true (.inl q1)]
    ·rw[decide_eq_false q1,cond_false]
     have:decide (g.2.2.2.2<0\/(g.2.1.length:Int)<=g.2.2.2.2)=decide ((g.2.1.length:Int)<=g.2.2.2.2):=by rw[decide_eq_decide];exact⟨λh=>h.resolve_left q1,.inr⟩
     rw[this]
   ·simp only
    unfold uS
    by_cases q:g.2.2.2.2<0\/(g.2.1.length:Int)<=g.2.2.2.2
    ·rw[decide_eq_true q,cond_true,if_pos q]
    ·rw[decide_eq_false q,cond_false,if_neg q]
 ·cases bn (ja g) 0 g.2.2.1 <;> rfl
theorem wX{g:GrI}(ok:pE g):p13 N0 (g,())=some (((dP g).1,((dP g).2.1,((dP g).2.2,()))),()):=by
 unfold p13 dP
 simp only
 rw[aa (JI (le_max ok.r0) ok.r1)]
 simp only
 by_cases e1:(ic g.1).2=0
 case neg=>rw[decide_eq_false e1,Bool.not_false,cond_true,if_pos e1]
 rw[decide_eq_true e1,Bool.not_true,cond_false,if_neg (show ¬¬(ic g.1).2=0 from λh=>h e1)]
 show _=gP (uU g)
 unfold uU
 by_cases e2:300<g.2.1.length
 ·rw[decide_eq_true (show(300:Int)<((g.2.1.length:Nat):Int) by omega),cond_true,if_pos e2];rfl
 rw[decide_eq_false (show ¬(300:Int)<((g.2.1.length:Nat):Int) by omega),cond_false,if_neg e2]
 refine(mn g.2.1 (λj=>((),((j:Int),()))) (gq g) (λe j=>gP (e,(2,(j:Int)))) (gP (uT g)) (λj h k=>?_) (λk=>?_) N0 (eH ok.s0)).trans ?_
 ·simp only
  rw[decide_eq_true (show(j:Int)<((g.2.1.length:Nat):Int) by omega),cond_true,aa (JQ ok (List.getElem?_eq_getElem h))]
  simp only
  by_cases e:gq g j g.2.1[j]=0
  ·rw[decide_eq_true e,Bool.not_true,cond_false,if_pos e,aC h (le_max ok.s0)]
  ·rw[decide_eq_false e,Bool.not_false,cond_true,if_neg e];rfl
 ·simp only
  rw[decide_eq_false (by omega),cond_false]
  unfold uT
  by_cases e4:200<g.2.2.1.length
  ·rw[decide_eq_true (show(200:Int)<((g.2.2.1.length:Nat):Int) by omega),cond_true,if_pos e4];rfl
  rw[decide_eq_false (show ¬(200:Int)<((g.2.2.1.length:Nat):Int) by omega),cond_false,if_neg e4]
  refine(mn g.2.2.1 (λj=>((),((j:Int),()))) (ja g) (λe j=>gP (e,(3,(j:Int)))) (gP (qu g)) (λj h k=>?_) (λk=>?_) N0 (eH ok.p0)).trans ?_
  ·simp only
   rw[decide_eq_true (show(j:Int)<((g.2.2.1.length:Nat):Int) by omega),cond_true,aa (JS ok (List.getElem?_eq_getElem h))]
   simp only
   by_cases e:ja g j g.2.2.1[j]=0
   ·rw[decide_eq_true e,Bool.not_true,cond_false,if_pos e,aC h (le_max ok.p0)]
   ·rw[decide_eq_false e,Bool.not_false,cond_true,if_neg e];rfl
  ·simp only
   rw[decide_eq_false (by omega),cond_false]
   unfold qu
   refine(mn g.2.2.2.1 (λj=>((),((j:Int),()))) (lz g) (λe j=>gP (e,(4,(j:Int)))) (gP (uS g)) (λj h k=>?_) (λk=>?_) N0 (eH ok.l0)).trans ?_
   ·simp only
    rw[decide_eq_true (show(j:Int)<((g.2.2.2.1.length:Nat):Int) by omega),cond_true,aa (JV ok (List.getElem?_eq_getElem h))]
    simp only
    by_cases e:lz g j g.2.2.2.1[j]=0
    ·rw[decide_eq_true e,Bool.not_true,cond_false,if_pos e,aC h (le_max ok.l0)]
    ·rw[decide_eq_false e,Bool.not_false,cond_true,if_neg e];rfl
   ·simp only
    rw[decide_eq_false (by omega),cond_false]
    refine aq ((),(decide (g.2.2.2.2<0\/(g.2.1.length:Int)<=g.2.2.2.2),())) (λK=>?_) ?_
    ·by_cases q1:g.2.2.2.2<0
     ·rw[decide_eq_true q1,cond_true,decide_eq_true (.inl q1)]
     ·rw[decide_eq_false q1,cond_false]
      have:decide (g.2.2.2.2<0\/(g.2.1.length:Int)<=g.2.2.2.2)=decide ((g.2.1.length:Int)<=g.2.2.2.2):=by rw[decide_eq_decide];exact⟨λh=>h.resolve_left q1,.inr⟩
      rw[this]
    ·simp only
     unfold uS
     by_cases q:g.2.2.2.2<0\/(g.2.1.length:Int)<=g.2.2.2.2
     ·rw[decide_eq_true q,cond_true,if_pos q];rfl
     ·rw[decide_eq_false q,cond_false,if_neg q];rfl
   ·cases bn (lz g) 0 g.2.2.2.1 <;> rfl
  ·cases bn (ja g) 0 g.2.2.1 <;> rfl
 ·cases bn (gq g) 0 g.2.1 <;> rfl
end
end Go.Proofs.YthalkfdkbalpmaaGreat.Rf
namespace Go.Proofs.YthalkfdkbalpmaaGreat.Rf.Rk
open Go Go.Proofs.YthalkfdkbalpmaaGreat.Rf
noncomputable section
abbrev Lvl:=Int×List Int
abbrev Prd:=Int×(List Int×(List (Bool×Int)×(Bool×(Int×List Int))))
abbrev Grm:=List (List Int×(Int×List Int))×(List (List Int)×(List Prd×(List Lvl×Int)))
structure GOk(g:Grm):Prop where
 ls:g.2.2.2.1.length<=maxLen
 lr:∀ l∈g.2.2.2.1,l.2.length<=maxLen
 ps:g.2.2.1.length<=maxLen
 pb:∀ p∈g.2.2.1,p.2.2.1.length<=maxLen
 rs:g.1.length<=maxLen
 so:g.2.1.length<=maxLen
def wY(r:List Int×(Int×List Int)):Bool:=decide (r.2.2.length<=40)&&decide (r.1.length<=100)
def qv(l:List (List Int×(Int×List Int))):Bool:=decide (l.length<=20)&&l.all wY
theorem JW(l:List (List Int×(Int×List Int)))(hl:l.length<=maxLen):p30 N0 (l,())=some ((qv l,()),()):=by
 unfold p30 qv
 simp only[aP,kw,decide_eq_true_eq]
 by_cases h1:(20:Int)<(l.length:Int)
 ·have:¬l.length<=20:=by omega
  simp[h1,this]
 ·have h2:l.length<=20:=by omega
  simp only[h1,h2,if_false,decide_true,Bool.true_and]
  refine cP (λj=>((),((j:Int),()))) (λj=>some (((l.drop j).all wY,()),())) l.length (λj hj k hk=>?_) N0 0 (Nat.zero_le _) (by have:=eL hl;omega)
  rcases Nat.lt_or_ge j l.length with hi|hi
  ·have hk:=hk hi
   have hc:(j:Int)<(l.length:Int):=by omega
   simp only[hc,if_true,Int.toNat_natCast,Int.natCast_nonneg,List.getElem?_eq_getElem hi,aC hi hl,List.drop_eq_getElem_cons hi,List.all_cons,hk]
   generalize l[j]=r
   unfold wY
   by_cases h3:(40:Int)<(r.2.2.length:Int)
   ·have:¬r.2.2.length<=40:=by omega
    simp[h3,this]
   ·have h4:r.2.2.length<=40:=by omega
    by_cases h5:(100:Int)<(r.1.length:Int)
    ·have:¬r.1.length<=100:=by omega
     simp[h3,h5,this]
    ·have:r.1.length<=100:=by omega
     simp[h3,h4,h5,this]
  ·have hc:¬(j:Int)<(l.length:Int):=by omega
   simp[hc,List.drop_eq_nil_of_le hi]
def sc(p:Prd):Bool:=decide (p.2.2.1.length<=20)&&(decide (p.2.2.2.2.2.length<=20)&&decide (p.2.1.length<=100))
def few(g:Grm):Bool:=qv g.1&&(decide (g.2.1.length<=20)&&(decide (g.2.2.1.length<=40)&&(decide (g.2.2.2.1.length<=20)&&(g.2.1.all (λs=>decide (s.length<=100))&&(g.2.2.1.all sc&&g.2.2.2.1.all (λl=>decide (l.2.length<=20)))))))
theorem Pj{a:Nat}{b:Nat}:(((b:Int)<(a:Int))↔¬a<=b):=by omega
theorem MC(g:Grm)(hg:GOk g):p8 N0 (g,())=some ((few g,()),()):=by
 unfold p8 few
 simp only[aP,JW g.1 hg.rs,aK,kw,decide_eq_true_eq]
 have e20:∀ a:Nat,((20:Int)<(a:Int))↔¬a<=20:=λa=>by omega
 have e40:∀ a:Nat,((40:Int)<(a:Int))↔¬a<=40:=λa=>by omega
 have Pk:∀ a:Nat,((100:Int)<(a:Int))↔¬a<=100:=λa=>by omega
 simp only[e20,e40,Pk]
 cases h1:qv g.1
 ·simp
 by_cases h2:g.2.1.length<=20
 case neg=>simp[h2]
 by_cases h3:g.2.2.1.length<=40
 case neg=>simp[h2,h3]
 by_cases h4:g.2.2.2.1.length<=20
 case neg=>simp[h2,h3,h4]
 simp only[h2,h3,h4,Bool.not_true,not_true,Bool.false_eq_true,if_false,decide_false,decide_true,Bool.true_and]
 refine(cU (after:=?a1) g.2.1 (λs=>decide (s.length<=100)) (some ((false,()),())) (λj=>((),(j:Int),())) ?s1 ?f1 N0 ?n1).trans ?_
 case f1=>intro k;simp only[Int.lt_irrefl,if_false];exact rfl
 case n1=>have:=eL hg.so;omega
 case s1=>
  intro j hj k
  have hc:(j:Int)<(g.2.1.length:Int):=by omega
  simp only[hc,if_true,Int.toNat_natCast,Int.natCast_nonneg,List.getElem?_eq_getElem hj,aC hj hg.so,e20,decide_eq_true_eq]
  split <;> simp_all
 split
 case isFalse h=>simp[h]
 case isTrue h5=>
 simp only[h5,Bool.true_and]
 refine(cU (after:=?a2) g.2.2.1 sc (some ((false,()),())) (λj=>((),(j:Int),())) ?s2 ?f2 N0 ?n2).trans ?_
 case f2=>intro k;simp only[Int.lt_irrefl,if_false];exact rfl
 case n2=>have:=eL hg.ps;omega
 case s2=>
  intro j hj k
  have hc:(j:Int)<(g.2.2.1.length:Int):=by omega
  simp only[hc,if_true,Int.toNat_natCast,Int.natCast_nonneg,List.getElem?_eq_getElem hj,aC hj hg.ps,e20,sc]
  generalize g.2.2.1[j]=p
  by_cases a1:p.2.2.1.length<=20 <;> by_cases a2:p.2.2.2.2.2.length<=20 <;> by_cases a3:p.2.1.length<=100 <;> simp[a1,a2,a3]
 split
 case isFalse h=>simp[h]
 case isTrue h6=>
 simp only[h6,Bool.true_and]
 refine(cU (after:=some ((true,()),())) g.2.2.2.1 (λl=>decide (l.2.length<=20)) (some ((false,()),())) (λj=>((),(j:Int),())) ?s3 ?f3 N0 ?n3).trans ?_
 case f3=>intro k;simp only[Int.lt_irrefl,if_false]
 case n3=>have:=eL hg.ls;omega
 case s3=>
  intro j hj k
  have hc:(j:Int)<(g.2.2.2.1.length:Int):=by omega
  simp only[hc,if_true,Int.toNat_natCast,Int.natCast_nonneg,List.getElem?_eq_getElem hj,aC hj hg.ls,e20,decide_eq_true_eq]
  split <;> simp_all
 split
 case isFalse h=>simp[h]
 case isTrue h7=>simp[h7]
theorem JX{g:Grm}(h:WfT y26 g):GOk g:=by
 obtain⟨⟨h1,_⟩,⟨h2,_⟩,⟨h3,h3'⟩,⟨h4,h4'⟩,h5⟩:=h
 exact⟨h4,λl hl=>(h4' l hl).2.1,h3,λp hp=>(h3' p hp).2.2.1.1,h1,h2⟩
end
noncomputable section
def cf(d:List Int):List (Bool×Int)->Int->Int
 |[],n=>n
 |s::b,n=>if s.1=false then cf d b (if 1073741824<n+1 then 1073741824 else n+1)
  else if s.2<0\/(d.length:Int)<=s.2\/d.getD s.2.toNat (-1)<0 then -1
  else cf d b (if 1073741824<n+d.getD s.2.toNat (-1)then 1073741824 else n+d.getD s.2.toNat (-1))
def Cap(d:List Int):Prop:=∀ v∈d,v<=1073741824
theorem DK(b:List (Bool×Int))(d:List Int)(hb:b.length<=maxLen)(hd:Cap d):p63 N0 (b,(d,()))=some ((cf d b 0,()),()):=by
 unfold p63
 refine au (λm x r=>∃ (j:Nat) (n:Int),x=((),(n,((j:Int),())))/\m+j=b.length/\0<=n/\n<=1073741824/\r=some ((cf d (b.drop j) n,()),())) ?_ N0 b.length _ _ (by have:=eL hb;omega) ⟨0,0,rfl,rfl,by omega,by omega,rfl⟩
 rintro m x r ⟨j,n,rfl,hm,h0,h1,rfl⟩ k hk
 rcases Nat.eq_zero_or_pos m with rfl|hm0
 ·have:¬(j:Int)<(b.length:Int):=by omega
  simp only[this,decide_false,cond_false,List.drop_eq_nil_of_le (show b.length<=j by omega),cf]
 obtain⟨m,rfl⟩:∃ m',m=m' + 1:=⟨m-1,by omega⟩
 have hj:j<b.length:=by omega
 have c1:(j:Int)<(b.length:Int):=by omega
 simp only[c1,decide_true,cond_true,Int.toNat_natCast,Int.natCast_nonneg,if_true,List.getElem?_eq_getElem hj,aC hj hb,aP,kw,decide_eq_true_eq,List.drop_eq_getElem_cons hj,cf,Bool.not_eq_true']
 generalize b[j]=s
 have w1:IntKind.wrap .i64 (n+1)=n+1:=aJ (by omega) (by omega)
 by_cases hs:s.1=false
 ·simp only[hs,if_true,w1]
  exact hk m _ _ (Nat.lt_succ_self _) ⟨j+1,_,rfl,by omega,by split <;> omega,by split <;> omega,rfl⟩
 by_cases a1:s.2<0
 ·simp only[hs,a1,if_true,if_false,true_or,reduceCtorEq]
 by_cases a2:(d.length:Int)<=s.2
 ·simp only[hs,a1,a2,if_true,if_false,true_or,or_true,decide_true,reduceCtorEq]
 have a3:s.2.toNat<d.length:=by omega
 have a4:(0:Int)<=s.2:=by omega
 have hg:d.getD s.2.toNat (-1)=d[s.2.toNat]:=by rw[List.getD_eq_getElem?_getD,List.getElem?_eq_getElem a3];rfl
 have hv:=hd _ (List.getElem_mem a3)
 rw[hg]
 simp only[hs,a1,a2,a4,if_true,if_false,false_or,List.getElem?_eq_getElem a3,reduceCtorEq]
 generalize d[s.2.toNat]=v at hv
 by_cases a5:v<0
 ·simp only[a5,if_true,decide_true]
 have w2:IntKind.wrap .i64 (n+v)=n+v:=aJ (by omega) (by omega)
 simp only[a5,if_false,decide_false,Bool.false_eq_true,w2]
 exact hk m _ _ (Nat.lt_succ_self _) ⟨j+1,_,rfl,by omega,by split <;> omega,by split <;> omega,rfl⟩
theorem DL(g:List (List Int×(Int×List Int))×(List (List Int)×(List (Int×(List Int×(List (Bool×Int)×(Bool×(Int×List Int)))))×(List (Int×List Int)×Int))))(b:List (Bool×Int))(d:List Int)(hb:b.length<=maxLen)(hd:Cap d):p71 N0 (g,(b,(d,())))=some ((cf d b 0,()),()):=by
 unfold p71
 refine au (λm x r=>∃ (j:Nat) (n:Int),x=((),(n,((j:Int),())))/\m+j=b.length/\0<=n/\n<=1073741824/\r=some ((cf d (b.drop j) n,()),())) ?_ N0 b.length _ _ (by have:=eL hb;omega) ⟨0,0,rfl,rfl,by omega,by omega,rfl⟩
 rintro m x r ⟨j,n,rfl,hm,h0,h1,rfl⟩ k hk
 rcases Nat.eq_zero_or_pos m with rfl|hm0
 ·have:¬(j:Int)<(b.length:Int):=by omega
  simp only[this,decide_false,cond_false,List.drop_eq_nil_of_le (show b.length<=j by omega),cf]
 obtain⟨m,rfl⟩:∃ m',m=m' + 1:=⟨m-1,by omega⟩
 have hj:j<b.length:=by omega
 have c1:(j:Int)<(b.length:Int):=by omega
 simp only[c1,decide_true,cond_true,Int.toNat_natCast,Int.natCast_nonneg,if_true,List.getElem?_eq_getElem hj,aC hj hb,aP,kw,decide_eq_true_eq,List.drop_eq_getElem_cons hj,cf,Bool.not_eq_true']
 generalize b[j]=s
 have w1:IntKind.wrap .i64 (n+1)=n+1:=aJ (by omega) (by omega)
 by_cases hs:s.1=false
 ·simp only[hs,if_true,w1]
  exact hk m _ _ (Nat.lt_succ_self _) ⟨j+1,_,rfl,by omega,by split <;> omega,by split <;> omega,rfl⟩
 by_cases a1:s.2<0
 ·simp only[hs,a1,if_true,if_false,true_or,reduceCtorEq]
 by_cases a2:(d.length:Int)<=s.2
 ·simp only[hs,a1,a2,if_true,if_false,true_or,or_true,decide_true,reduceCtorEq]
 have a3:s.2.toNat<d.length:=by omega
 have a4:(0:Int)<=s.2:=by omega
 have hg:d.getD s.2.toNat (-1)=d[s.2.toNat]:=by rw[List.getD_eq_getElem?_getD,List.getElem?_eq_getElem a3];rfl
 have hv:=hd _ (List.getElem_mem a3)
 rw[hg]
 simp only[hs,a1,a2,a4,if_true,if_false,false_or,List.getElem?_eq_getElem a3,reduceCtorEq]
 generalize d[s.2.toNat]=v at hv
 by_cases a5:v<0
 ·simp only[a5,if_true,decide_true]
 have w2:IntKind.wrap .i64 (n+v)=n+v:=aJ (by omega) (by omega)
 simp only[a5,if_false,decide_false,Bool.false_eq_true,w2]
 exact hk m _ _ (Nat.lt_succ_self _) ⟨j+1,_,rfl,by omega,by split <;> omega,by split <;> omega,rfl⟩
end
noncomputable section
def at1(d:List Int)(i:Nat):Int:=d.getD i (-1)
def leD(d c:List Int):Prop:=d.length=c.length/\∀ i,0<=at1 c i->0<=at1 d i/\at1 d i<=at1 c i
theorem nz{d:List Int}(h:Cap d)(i:Nat):at1 d i<=1073741824:=by
 unfold at1
 rw[List.getD_eq_getElem?_getD]
 cases hi:d[i]? with
 |none=>simp
 |some v=>exact h v (List.mem_of_getElem? hi)
theorem o5{d:List Int}(hc:Cap d):∀ (b:List (Bool×Int)) (n:Int),0<=n->n<=1073741824->-1<=cf d b n/\cf d b n<=1073741824:=by
 intro b
 induction b with
 |nil=>intro n h0 h1;simp only[cf];omega
 |cons s b ih=>
  intro n h0 h1
  simp only[cf]
  split
  ·exact ih _ (by split <;> omega) (by split <;> omega)
  ·split
   ·omega
   ·rename_i h
    have:=nz hc s.2.toNat
    unfold at1 at this
    have h3:¬d.getD s.2.toNat (-1)<0:=λh3=>h (.inr (.inr h3))
    exact ih _ (by split <;> omega) (by split <;> omega)
theorem AD{d c:List Int}(h:leD d c):∀ (b:List (Bool×Int)) (n m:Int),0<=n->n<=m->m<=1073741824->0<=cf c b m->0<=cf d b n/\cf d b n<=cf c b m:=by
 intro b
 induction b with
 |nil=>intro n m h0 h1 h2 h3;simp only[cf]at h3 |-;omega
 |cons s b ih=>
  intro n m h0 h1 h2 h3
  simp only[cf]at h3 |-
  by_cases hs:s.1=false
  ·simp only[hs,if_true]at h3 |-
   exact ih _ _ (by split <;> omega) (by split <;> split <;> omega) (by split <;> omega) h3
  ·simp only[if_neg hs]at h3 |-
   by_cases hb:s.2<0\/(c.length:Int)<=s.2\/c.getD s.2.toNat (-1)<0
   ·simp only[if_pos hb]at h3;omega
   ·simp only[if_neg hb]at h3 |-
    have hc0:0<=at1 c s.2.toNat:=by unfold at1;omega
    obtain⟨e1,e2⟩:=h.2 _ hc0
    unfold at1 at e1 e2 hc0
    have hl:=h.1
    have hd':¬(s.2<0\/(d.length:Int)<=s.2\/d.getD s.2.toNat (-1)<0):=by omega
    simp only[if_neg hd']
    exact ih _ _ (by split <;> omega) (by split <;> split <;> omega) (by split <;> omega) h3
def gA(d:List Int)(p:Prd):Prop:=0<=p.1/\p.1<(d.length:Int)/\0<=cf d p.2.2.1 0/\(at1 d p.1.toNat<0\/cf d p.2.2.1 0<at1 d p.1.toNat)
instance (d:List Int) (p:Prd):Decidable (gA d p):=by unfold gA;exact inferInstance
structure Closed(ps:List Prd)(ns:Nat)(d:List Int):Prop where
 len:d.length=ns
 cap:Cap d
 lo:∀ v∈d,-1<=v
 no:∀ p∈ps,¬gA d p
structure jL(ps:List Prd)(ns:Nat)(d:List Int):Prop where
 len:d.length=ns
 cap:Cap d
 lo:∀ v∈d,-1<=v
 least:∀ e,Closed ps ns e->leD e d
theorem G6{d:List Int}{i j:Nat}{v:Int}(hi:i<d.length):at1 (d.set i v) j=if j=i then v else at1 d j:=by
 unfold at1
 rw[List.getD_eq_getElem?_getD,List.getD_eq_getElem?_getD,List.getElem?_set]
 by_cases e:i=j
 ·subst e;simp[hi]
 ·rw[if_neg e,if_neg (Ne.symm e)]
theorem jL.step{ps:List Prd}{ns:Nat}{d:List Int}(h:jL ps ns d){p:Prd}(hp:p∈ps)(hg:gA d p):jL ps ns (d.set p.1.toNat (cf d p.2.2.1 0)):=by
 obtain⟨g0,g1,g2,g3⟩:=hg
 have hi:p.1.toNat<d.length:=by omega
 obtain⟨r1,r2⟩:=o5 h.cap p.2.2.1 0 (by omega) (by omega)
 refine⟨by rw[List.length_set];exact h.len,λv hv=>?_,λv hv=>?_,λe he=>?_⟩
 ·rcases List.mem_or_eq_of_mem_set hv with hv|rfl
  ·exact h.cap v hv
  ·exact r2
 ·rcases List.mem_or_eq_of_mem_set hv with hv|rfl
  ·exact h.lo v hv
  ·exact r1
 ·have hle:=h.least e he
  refine⟨by rw[List.length_set];exact hle.1,λi hi0=>?_⟩
  rw[G6 hi]at hi0 |-
  by_cases e1:i=p.1.toNat
  ·rw[if_pos e1]at hi0 |-
   subst e1
   obtain⟨m1,m2⟩:=AD hle p.2.2.1 0 0 (by omega) (by omega) (by omega) g2
   have hn:=he.no p hp
   have hl:(e.length:Int)=d.length:=by rw[hle.1]
   have:¬(at1 e p.1.toNat<0\/cf e p.2.2.1 0<at1 e p.1.toNat):=λhx=>hn ⟨g0,by omega,m1,hx⟩
   omega
  ·rw[if_neg e1]at hi0 |-
   exact hle.2 i hi0
def mu1(v:Int):Nat:=if v<0 then 1073741825 else v.toNat
def mu(d:List Int):Nat:=(d.map mu1).foldr (· + ·) 0
theorem se(v:Int)(d:List Int):mu (v::d)=mu1 v+mu d:=rfl
theorem JY:∀ {d:List Int} {i:Nat} {v:Int},i<d.length->mu1 v<mu1 (at1 d i)->mu (d.set i v)<mu d:=by
 intro d
 induction d with
 |nil=>intro i v h;simp at h
 |cons x xs ih=>
  intro i v h hv
  cases i with
  |zero=>
   simp only[List.set_cons_zero,se]
   have:at1 (x::xs) 0=x:=rfl
   rw[this]at hv;omega
  |succ i=>
   simp only[List.set_cons_succ,se]
   have e:at1 (x::xs) (i+1)=at1 xs i:=rfl
   rw[e]at hv
   have:=ih (by simpa using h) hv
   omega
theorem G7{d:List Int}(hc:Cap d){p:Prd}(hg:gA d p):mu (d.set p.1.toNat (cf d p.2.2.1 0))<mu d:=by
 obtain⟨g0,g1,g2,g3⟩:=hg
 obtain⟨r1,r2⟩:=o5 hc p.2.2.1 0 (by omega) (by omega)
 refine JY (by omega) ?_
 unfold mu1
 rw[if_neg (by omega)]
 split <;> omega
theorem HL{d:List Int}(hc:Cap d):mu d<=d.length*1073741825:=by
 induction d with
 |nil=>simp[mu]
 |cons x xs ih=>
  rw[se,List.length_cons,Nat.succ_mul]
  have h1:=ih (λv hv=>hc v (by simp[hv]))
  have h2:=hc x (by simp)
  have:mu1 x<=1073741825:=by unfold mu1;split <;> omega
  omega
def pass:List Prd->List Int->Bool->List Int×Bool
 |[],d,m=>(d,m)
 |p::ps,d,m=>if gA d p then pass ps (d.set p.1.toNat (cf d p.2.2.1 0)) true else pass ps d m
theorem o6{ps:List Prd}{ns:Nat}:∀ (qs:List Prd),(∀ p∈qs,p∈ps)->∀ d m,jL ps ns d->jL ps ns (pass qs d m).1/\mu (pass qs d m).1<=mu d/\((pass qs d m).2=true->m=false->mu (pass qs d m).1<mu d)/\((pass qs d m).2=false->(pass qs d m).1=d/\∀ p∈qs,¬gA d p):=by
 intro qs
 induction qs with
 |nil=>intro _ d m h;exact⟨h,Nat.le_refl _,λh1 h2=>(by subst h2;cases h1),λ_=>⟨rfl,by simp⟩⟩
 |cons p qs ih=>
  intro hs d m h
  unfold pass
  split
  ·rename_i hg
   obtain⟨i1,i2,i3,i4⟩:=ih (λq hq=>hs q (by simp[hq])) _ true (h.step (hs p (by simp)) hg)
   have hlt:=G7 h.cap hg
   have ht:∀ (qs:List Prd) (d:List Int),(pass qs d true).2=true:=by
    intro qs
    induction qs with
    |nil=>intro d;rfl
    |cons q qs ih=>intro d;unfold pass;split <;> exact ih _
   exact⟨i1,by omega,λ_ _=>by omega,λhf=>by rw[ht]at hf;cases hf⟩
  ·rename_i hg
   obtain⟨i1,i2,i3,i4⟩:=ih (λq hq=>hs q (by simp[hq])) d m h
   refine⟨i1,i2,i3,λhf=>⟨(i4 hf).1,λq hq=>?_⟩⟩
   rcases List.mem_cons.1 hq with rfl|hq
   ·exact hg
   ·exact(i4 hf).2 q hq
def iter(ps:List Prd):Nat->List Int->List Int
 |0,d=>d
 |k+1,d=>if(pass ps d false).2=true then iter ps k (pass ps d false).1 else(pass ps d false).1
theorem G8{ps:List Prd}{ns:Nat}:∀ k d,mu d<k->jL ps ns d->jL ps ns (iter ps k d)/\Closed ps ns (iter ps k d):=by
 intro k
 induction k with
 |zero=>intro d h;omega
 |succ k ih=>
  intro d h hi
  obtain⟨i1,i2,i3,i4⟩:=o6 ps (λp hp=>hp) d false hi
  unfold iter
  split
  ·rename_i hm
   exact ih _ (by have:=i3 hm rfl;omega) i1
  ·rename_i hm
   have hm:(pass ps d false).2=false:=by cases hh:(pass ps d false).2 <;> simp_all
   obtain⟨e1,e2⟩:=i4 hm
   rw[e1]
   exact⟨hi,hi.len,hi.cap,hi.lo,e2⟩
theorem Ki{ps:List Prd}{ns:Nat}{c d:List Int}(hc:jL ps ns c)(hc':Closed ps ns c)(hd:jL ps ns d)(hd':Closed ps ns d):c=d:=by
 have h1:=hc.least d hd'
 have h2:=hd.least c hc'
 refine List.ext_getElem (by rw[hc.len,hd.len]) (λi hi hj=>?_)
 have ec:at1 c i=c[i]:=by unfold at1;rw[List.getD_eq_getElem?_getD,List.getElem?_eq_getElem hi];rfl
 have ed:at1 d i=d[i]:=by unfold at1;rw[List.getD_eq_getElem?_getD,List.getElem?_eq_getElem hj];rfl
 have l1:=hc.lo _ (List.getElem_mem hi)
 have l2:=hd.lo _ (List.getElem_mem hj)
 have a1:=h1.2 i
 have a2:=h2.2 i
 rw[ec,ed]at a1 a2
 by_cases x:0<=c[i]
 ·have:=a1 x;have:=a2 this.1;omega
 ·by_cases y:0<=d[i]
  ·have:=a2 y;omega
  ·omega
end
noncomputable section
def d0(g:Grm):List Int:=List.replicate g.2.1.length (-1)
def bD(g:Grm):List Int:=iter g.2.2.1 (mu (d0 g)+1) (d0 g)
theorem wZ(g:Grm):jL g.2.2.1 g.2.1.length (d0 g):=by
 refine⟨by simp[d0],λv hv=>?_,λv hv=>?_,λe he=>⟨by rw[he.len];simp[d0],λi hi=>?_⟩⟩
 ·rw[List.eq_of_mem_replicate hv];omega
 ·rw[List.eq_of_mem_replicate hv];omega
 ·exfalso
  have:at1 (d0 g) i=-1:=by
   unfold at1 d0
   rw[List.getD_eq_getElem?_getD,List.getElem?_replicate]
   split <;> rfl
  omega
theorem eV(g:Grm):jL g.2.2.1 g.2.1.length (bD g)/\Closed g.2.2.1 g.2.1.length (bD g):=G8 _ _ (Nat.lt_succ_self _) (wZ g)
theorem G9{α:Type}{a b:α}{n j:Nat}(h:j<n):(List.replicate j a++List.replicate (n-j) b).set j a=List.replicate (j+1) a++List.replicate (n-(j+1)) b:=by
 obtain⟨k,rfl⟩:∃ k,n=j+1+k:=⟨n-(j+1),by omega⟩
 rw[show j+1+k-j=k+1 by omega,show j+1+k-(j+1)=k by omega,List.replicate_succ,List.set_append_right _ _ (by simp),List.length_replicate,Nat.sub_self,List.set_cons_zero,List.replicate_succ',List.append_assoc]
 rfl
set_option maxHeartbeats 1000000 in
theorem DM(g:Grm)(hg:GOk g)(hn:g.2.1.length<=100):p33 N0 (g,())=some ((bD g,()),()):=by
 unfold p33
 have z0:(0:Int)<=(g.2.1.length:Int)/\(g.2.1.length:Int)<=(g.2.1.length:Int):=by omega
 have z1:((g.2.1.length:Int)).toNat*8<=140737488355328:=by omega
 simp only[z0,z1,and_self,if_true,Int.toNat_natCast,List.length_replicate]
 rw[if_pos (by omega)]
 refine(cP (λj=>((List.replicate j (-1:Int)++List.replicate (g.2.1.length-j) 0,()),(((j:Nat):Int),()))) (λ_=>some ((bD g,()),())) g.2.1.length (λj hj k hk=>?_) N0 0 (Nat.zero_le _) (by have:=eL hg.so;omega))
 rcases Nat.lt_or_ge j g.2.1.length with hlt|hge
 ·have hk:=hk hlt
  have hc:((j:Nat):Int)<(g.2.1.length:Int):=by omega
  have hl:j<(List.replicate j (-1:Int)++List.replicate (g.2.1.length-j) 0).length:=by simp;omega
  simp only[hc,decide_true,cond_true,Int.toNat_natCast,Int.natCast_nonneg,if_true,List.getElem?_eq_getElem hl,G9 hlt,aC hlt hg.so]
  exact hk
 have hc:¬((j:Nat):Int)<(g.2.1.length:Int):=by omega
 have e0:List.replicate j (-1:Int)++List.replicate (g.2.1.length-j) 0=d0 g:=by
  have:j=g.2.1.length:=by omega
  subst this
  simp[d0]
 simp only[hc,decide_false,cond_false,e0]
 refine au (λm x r=>∃ (d:List Int) (b:Bool),x=((d,()),(b,()))/\jL g.2.2.1 g.2.1.length d/\(b=true->mu d<m)/\r=some ((if b=true then iter g.2.2.1 m d else d,()),())) ?_ N0 (mu (d0 g)+1) _ _ (by
  have:=HL (wZ g).cap
  rw[(wZ g).len]at this
  have:g.2.1.length*1073741825<=100*1073741825:=Nat.mul_le_mul_right _ hn
  unfold N0;omega) ⟨d0 g,true,rfl,wZ g,λ_=>Nat.lt_succ_self _,rfl⟩
 rintro m x r ⟨d,b,rfl,hi,hm,rfl⟩ k2 hk2
 cases b
 case false=>simp only[cond_false,Bool.false_eq_true,if_false]
 have hm:=hm rfl
 obtain⟨m,rfl⟩:∃ m',m=m' + 1:=⟨m-1,by omega⟩
 simp only[if_true,iter]
 rw[cond_true]
 obtain⟨i1,i2,i3,i4⟩:=o6 g.2.2.1 (λp hp=>hp) d false hi
 have fin:k2 (((pass g.2.2.1 d false).1,()),((pass g.2.2.1 d false).2,()))=some ((if(pass g.2.2.1 d false).2=true then iter g.2.2.1 m (pass g.2.2.1 d false).1 else(pass g.2.2.1 d false).1,()),()):=
  hk2 m _ _ (Nat.lt_succ_self _) ⟨_,_,rfl,i1,λh=>by have:=i3 h rfl;omega,rfl⟩
 rw[<-fin]
 clear fin i1 i2 i3 i4
 refine au (λmm x r=>∃ (j:Nat) (d:List Int) (b:Bool),x=((d,()),(b,((j:Int),())))/\mm+j=g.2.2.1.length/\jL g.2.2.1 g.2.1.length d/\r=k2 (((pass (g.2.2.1.drop j) d b).1,()),((pass (g.2.2.1.drop j) d b).2,()))) ?_ N0 g.2.2.1.length _ _ (by have:=eL hg.ps;omega) ⟨0,d,false,rfl,rfl,hi,rfl⟩
 clear hi hm hk2
 rintro mm x r ⟨j,d,b,rfl,hmm,hi,rfl⟩ k hk
 rcases Nat.eq_zero_or_pos mm with rfl|hm0
 ·have:¬(j:Int)<(g.2.2.1.length:Int):=by omega
  simp only[this,decide_false,cond_false,List.drop_eq_nil_of_le (show g.2.2.1.length<=j by omega),pass]
 obtain⟨mm,rfl⟩:∃ m',mm=m' + 1:=⟨mm-1,by omega⟩
 have hj:j<g.2.2.1.length:=by omega
 have c1:(j:Int)<(g.2.2.1.length:Int):=by omega
 have hpm:=List.getElem_mem hj
 have hpb:=hg.pb _ hpm
 simp only[c1,decide_true,cond_true,Int.toNat_natCast,Int.natCast_nonneg,if_true,List.getElem?_eq_getElem hj,aC hj hg.ps,aP,kw,decide_eq_true_eq,List.drop_eq_getElem_cons hj,pass,DK _ d hpb hi.cap,aK]
 generalize g.2.2.1[j]=p at hpm
 by_cases a1:p.1<0
 ·have ng:¬gA d p:=λh=>by have:=h.1;omega
  simp only[ng,a1,if_true,if_false]
  exact hk mm _ _ (Nat.lt_succ_self _) ⟨j+1,d,b,rfl,by omega,hi,rfl⟩
 by_cases a2:(d.length:Int)<=p.1
 ·have ng:¬gA d p:=λh=>by have:=h.2.1;omega
  simp only[ng,a1,a2,if_true,if_false,decide_true]
  exact hk mm _ _ (Nat.lt_succ_self _) ⟨j+1,d,b,rfl,by omega,hi,rfl⟩
 have b1:0<=p.1:=by omega
 have b2:p.1<(d.length:Int):=by omega
 have b3:p.1.toNat<d.length:=by omega
 have hat:at1 d p.1.toNat=d[p.1.toNat]:=by unfold at1;rw[List.getD_eq_getElem?_getD,List.getElem?_eq_getElem b3];rfl
 simp only[a1,a2,b1,b2,if_true,if_false,decide_false,Bool.false_eq_true,List.getElem?_eq_getElem b3,true_and,hat]
 by_cases a3:0<=cf d p.2.2.1 0
 case neg=>
  have ng:¬gA d p:=λh=>a3 h.2.2.1
  simp only[ng,a3,if_false,false_and,Bool.false_eq_true]
  exact hk mm _ _ (Nat.lt_succ_self _) ⟨j+1,d,b,rfl,by omega,hi,rfl⟩
 have hst:gA d p->jL g.2.2.1 g.2.1.length (d.set p.1.toNat (cf d p.2.2.1 0)):=λh=>hi.step hpm h
 by_cases a4:d[p.1.toNat]<0
 ·have yg:gA d p:=⟨b1,b2,a3,.inl (by rw[hat];exact a4)⟩
  simp only[yg,a3,a4,if_true,decide_true]
  exact hk mm _ _ (Nat.lt_succ_self _) ⟨j+1,_,true,rfl,by omega,hst yg,rfl⟩
 by_cases a5:cf d p.2.2.1 0<d[p.1.toNat]
 ·have yg:gA d p:=⟨b1,b2,a3,.inr (by rw[hat];exact a5)⟩
  simp only[yg,a3,a4,a5,if_true,if_false,decide_true]
  exact hk mm _ _ (Nat.lt_succ_self _) ⟨j+1,_,true,rfl,by omega,hst yg,rfl⟩
 ·have ng:¬gA d p:=λh=>by
   rcases h.2.2.2 with h|h
   ·rw[hat]at h;exact a4 h
   ·rw[hat]at h;exact a5 h
  simp only[ng,a3,a4,a5,if_true,if_false,decide_false,Bool.false_eq_true]
  exact hk mm _ _ (Nat.lt_succ_self _) ⟨j+1,d,b,rfl,by omega,hi,rfl⟩
set_option maxHeartbeats 1000000 in
theorem JZ(g:Grm)(hg:GOk g)(hn:g.2.1.length<=100):p39 N0 (g,())=some ((bD g,()),()):=by
 unfold p39
 refine(cP (λj=>((),(List.replicate j (-1:Int),(((j:Nat):Int),())))) (λ_=>some ((bD g,()),())) g.2.1.length (λj hj k hk=>?_) N0 0 (Nat.zero_le _) (by have:=eL hg.so;omega))
 rcases Nat.lt_or_ge j g.2.1.length with hlt|hge
 ·have hk:=hk hlt
  have hc:((j:Nat):Int)<(g.2.1.length:Int):=by omega
  simp only[hc,decide_true,cond_true,aC hlt hg.so,List.length_replicate,List.length_cons,List.length_nil]
  rw[if_pos (by omega),if_pos (by omega),<-List.replicate_succ']
  exact hk
 have hc:¬((j:Nat):Int)<(g.2.1.length:Int):=by omega
 have e0:List.replicate j (-1:Int)=d0 g:=by
  have:j=g.2.1.length:=by omega
  subst this
  rfl
 simp only[hc,decide_false,cond_false,e0]
 refine au (λm x r=>∃ (d:List Int) (b:Bool),x=((d,()),(b,()))/\jL g.2.2.1 g.2.1.length d/\(b=true->mu d<m)/\r=some ((if b=true then iter g.2.2.1 m d else d,()),())) ?_ N0 (mu (d0 g)+1) _ _ (by
  have:=HL (wZ g).cap
  rw[(wZ g).len]at this
  have:g.2.1.length*1073741825<=100*1073741825:=Nat.mul_le_mul_right _ hn
  unfold N0;omega) ⟨d0 g,true,rfl,wZ g,λ_=>Nat.lt_succ_self _,rfl⟩
 rintro m x r ⟨d,b,rfl,hi,hm,rfl⟩ k2 hk2
 cases b
 case false=>simp only[cond_false,Bool.false_eq_true,if_false]
 have hm:=hm rfl
 obtain⟨m,rfl⟩:∃ m',m=m' + 1:=⟨m-1,by omega⟩
 simp only[if_true,iter]
 rw[cond_true]
 obtain⟨i1,i2,i3,i4⟩:=o6 g.2.2.1 (λp hp=>hp) d false hi
 have fin:k2 (((pass g.2.2.1 d false).1,()),((pass g.2.2.1 d false).2,()))=some ((if(pass g.2.2.1 d false).2=true then iter g.2.2.1 m (pass g.2.2.1 d false).1 else(pass g.2.2.1 d false).1,()),()):=
  hk2 m _ _ (Nat.lt_succ_self _) ⟨_,_,rfl,i1,λh=>by have:=i3 h rfl;omega,rfl⟩
 rw[<-fin]
 clear fin i1 i2 i3 i4
 refine au (λmm x r=>∃ (j:Nat) (d:List Int) (b:Bool),x=((d,()),(b,((j:Int),())))/\mm+j=g.2.2.1.length/\jL g.2.2.1 g.2.1.length d/\r=k2 (((pass (g.2.2.1.drop j) d b).1,()),((pass (g.2.2.1.drop j) d b).2,()))) ?_ N0 g.2.2.1.length _ _ (by have:=eL hg.ps;omega) ⟨0,d,false,rfl,rfl,hi,rfl⟩
 clear hi hm hk2
 rintro mm x r ⟨j,d,b,rfl,hmm,hi,rfl⟩ k hk
 rcases Nat.eq_zero_or_pos mm with rfl|hm0
 ·have:¬(j:Int)<(g.2.2.1.length:Int):=by omega
  simp only[this,decide_false,cond_false,List.drop_eq_nil_of_le (show g.2.2.1.length<=j by omega),pass]
 obtain⟨mm,rfl⟩:∃ m',mm=m' + 1:=⟨mm-1,by omega⟩
 have hj:j<g.2.2.1.length:=by omega
 have c1:(j:Int)<(g.2.2.1.length:Int):=by omega
 have hpm:=List.getElem_mem hj
 have hpb:=hg.pb _ hpm
 simp only[c1,decide_true,cond_true,Int.toNat_natCast,Int.natCast_nonneg,if_true,List.getElem?_eq_getElem hj,aC hj hg.ps,aP,kw,decide_eq_true_eq,List.drop_eq_getElem_cons hj,pass,DL g _ d hpb hi.cap,aK]
 generalize g.2.2.1[j]=p at hpm
 by_cases a1:p.1<0
 ·have ng:¬gA d p:=λh=>by have:=h.1;omega
  simp only[ng,a1,if_true,if_false]
  exact hk mm _ _ (Nat.lt_succ_self _) ⟨j+1,d,b,rfl,by omega,hi,rfl⟩
 by_cases a2:(d.length:Int)<=p.1
 ·have ng:¬gA d p:=λh=>by have:=h.2.1;omega
  simp only[ng,a1,a2,if_true,if_false,decide_true]
  exact hk mm _ _ (Nat.lt_succ_self _) ⟨j+1,d,b,rfl,by omega,hi,rfl⟩
 have b1:0<=p.1:=by omega
 have b2:p.1<(d.length:Int):=by omega
 have b3:p.1.toNat<d.length:=by omega
 have hat:at1 d p.1.toNat=d[p.1.toNat]:=by unfold at1;rw[List.getD_eq_getElem?_getD,List.getElem?_eq_getElem b3];rfl
 simp only[a1,a2,b1,b2,if_true,if_false,decide_false,Bool.false_eq_true,List.getElem?_eq_getElem b3,true_and,hat]
 by_cases a3:0<=cf d p.2.2.1 0
 case neg=>
  have ng:¬gA d p:=λh=>a3 h.2.2.1
  simp only[ng,a3,if_false,false_and,Bool.false_eq_true]
  exact hk mm _ _ (Nat.lt_succ_self _) ⟨j+1,d,b,rfl,by omega,hi,rfl⟩
 have hst:gA d p->jL g.2.2.1 g.2.1.length (d.set p.1.toNat (cf d p.2.2.1 0)):=λh=>hi.step hpm h
 by_cases a4:d[p.1.toNat]<0
 ·have yg:gA d p:=⟨b1,b2,a3,.inl (by rw[hat];exact a4)⟩
  simp only[yg,a3,a4,if_true,decide_true]
  exact hk mm _ _ (Nat.lt_succ_self _) ⟨j+1,_,true,rfl,by omega,hst yg,rfl⟩
 by_cases a5:cf d p.2.2.1 0<d[p.1.toNat]
 ·have yg:gA d p:=⟨b1,b2,a3,.inr (by rw[hat];exact a5)⟩
  simp only[yg,a3,a4,a5,if_true,if_false,decide_true]
  exact hk mm _ _ (Nat.lt_succ_self _) ⟨j+1,_,true,rfl,by omega,hst yg,rfl⟩
 ·have ng:¬gA d p:=λh=>by
   rcases h.2.2.2 with h|h
   ·rw[hat]at h;exact a4 h
   ·rw[hat]at h;exact a5 h
  simp only[ng,a3,a4,a5,if_true,if_false,decide_false,Bool.false_eq_true]
  exact hk mm _ _ (Nat.lt_succ_self _) ⟨j+1,d,b,rfl,by omega,hi,rfl⟩
end
noncomputable section
def bit(f:List Bool)(i:Nat):Bool:=f.getD i false
theorem J0{f:List Bool}{i:Nat}(h:i<f.length):bit f i=f[i]:=by unfold bit;rw[List.getD_eq_getElem?_getD,List.getElem?_eq_getElem h];rfl
theorem nA{f:List Bool}{i j:Nat}{v:Bool}(hi:i<f.length):bit (f.set i v) j=if j=i then v else bit f j:=by
 unfold bit
 rw[List.getD_eq_getElem?_getD,List.getD_eq_getElem?_getD,List.getElem?_set]
 by_cases e:i=j
 ·subst e;simp[hi]
 ·rw[if_neg e,if_neg (Ne.symm e)]
def mf(f:List Bool):Nat:=(f.map (λb=>if b=true then 0 else 1)).foldr (· + ·) 0
theorem sf(b:Bool)(f:List Bool):mf (b::f)=(if b=true then 0 else 1)+mf f:=rfl
theorem J1:∀ {f:List Bool} {i:Nat},i<f.length->bit f i=false->mf (f.set i true)<mf f:=by
 intro f
 induction f with
 |nil=>intro i h;simp at h
 |cons x xs ih=>
  intro i h hv
  cases i with
  |zero=>
   simp only[List.set_cons_zero,sf]
   have:x=false:=hv
   rw[this];simp
  |succ i=>
   simp only[List.set_cons_succ,sf]
   have:=ih (by simpa using h) (show bit xs i=false from hv)
   omega
theorem HM(f:List Bool):mf f<=f.length:=by
 induction f with
 |nil=>simp[mf]
 |cons x xs ih=>rw[sf,List.length_cons];split <;> omega
theorem yr(n i:Nat):bit (List.replicate n false) i=false:=by
 unfold bit
 rw[List.getD_eq_getElem?_getD,List.getElem?_replicate]
 split <;> rfl
theorem J2(a b:List (Bool×Int))(h:a.length+b.length<=1000):p62 N0 ([a,b],())=some ((a++b,()),()):=by
 unfold p62
 obtain⟨n,hn⟩:∃ n,N0=n+3:=⟨18446744073709551613,rfl⟩
 rw[hn]
 have w0:IntKind.wrap .i64 (a.length:Int)=(a.length:Int):=aJ (by omega) (by omega)
 have w1:IntKind.wrap .i64 ((a.length:Int)+(b.length:Int))=(a.length:Int)+(b.length:Int):=aJ (by omega) (by omega)
 have w2:IntKind.wrap .i64 (1:Int)=1:=by decide
 have w3:IntKind.wrap .i64 ((1:Int)+1)=2:=by decide
 have w4:IntKind.wrap .i64 (2:Int)=2:=by decide
 have c1:¬(a.length:Int)<0:=by omega
 have c2:¬(a.length:Int)+(b.length:Int)<0:=by omega
 have c3:a.length*16<=140737488355328:=by omega
 have c4:a.length<=9223372036854775807:=by omega
 have c5:(a.length+b.length)*16<=140737488355328:=by omega
 have c6:a.length+b.length<=9223372036854775807:=by omega
 have g:p94 (n+3) ([],((a.length:Int)+(b.length:Int),()))=some (([],()),()):=by
  unfold p94
  rw[if_pos ⟨rfl,by simp only;omega,by simp only;omega⟩]
 simp[bL,w0,w1,w2,w3,w4,c1,c2,c3,c4,c5,c6,g]
end
noncomputable section
def War(E:Nat->Nat->Prop):Nat->Nat->Nat->Prop
 |0,i,k=>E i k
 |m+1,i,k=>War E m i k\/(War E m i m/\War E m m k)
theorem AE{E:Nat->Nat->Prop}:∀ (M m:Nat),m<M->∀ i k,War E M i m->War E M m k->War E M i k:=by
 intro M
 induction M with
 |zero=>intro m h;omega
 |succ M ih=>
  intro m h i k h1 h2
  rcases Nat.lt_or_ge m M with hlt|hge
  ·rcases h1 with h1|⟨a1,a2⟩
   ·rcases h2 with h2|⟨b1,b2⟩
    ·exact .inl (ih m hlt i k h1 h2)
    ·exact .inr ⟨ih m hlt i M h1 b1,b2⟩
   ·rcases h2 with h2|⟨b1,b2⟩
    ·exact .inr ⟨a1,ih m hlt M k a2 h2⟩
    ·exact .inr ⟨a1,b2⟩
  ·have e:m=M:=by omega
   subst e
   have g1:War E m i m:=by rcases h1 with h1|⟨a1,_⟩ <;> assumption
   have g2:War E m m k:=by rcases h2 with h2|⟨_,b2⟩ <;> assumption
   exact .inr ⟨g1,g2⟩
inductive Way(E:Nat->Nat->Prop):Nat->Nat->Prop
 |one {i k}:E i k->Way E i k
 |more {i j k}:E i j->Way E j k->Way E i k
theorem Way.trans{E:Nat->Nat->Prop}{i j k:Nat}(h:Way E i j)(h2:Way E j k):Way E i k:=by
 induction h with
 |one h=>exact .more h h2
 |more h _ ih=>exact .more h (ih h2)
theorem Ha{E:Nat->Nat->Prop}:∀ M i k,War E M i k->Way E i k:=by
 intro M
 induction M with
 |zero=>intro i k h;exact .one h
 |succ M ih=>
  intro i k h
  rcases h with h|⟨h1,h2⟩
  ·exact ih _ _ h
  ·exact(ih _ _ h1).trans (ih _ _ h2)
theorem DN{E:Nat->Nat->Prop}{i k:Nat}(h:E i k):∀ M,War E M i k:=by
 intro M
 induction M with
 |zero=>exact h
 |succ M ih=>exact .inl ih
theorem Hb{E:Nat->Nat->Prop}{M:Nat}(hE:∀ i k,E i k->k<M){i k:Nat}(h:Way E i k):War E M i k:=by
 induction h with
 |one h=>exact DN h M
 |more h _ ih=>exact AE M _ (hE _ _ h) _ _ (DN h M) ih
end
end Go.Proofs.YthalkfdkbalpmaaGreat.Rf.Rk
