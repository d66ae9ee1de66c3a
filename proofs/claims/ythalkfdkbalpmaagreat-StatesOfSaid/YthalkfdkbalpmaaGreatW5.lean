/- A part of a proof that a given statement (the one of this claim: the name of its theorem ends in _holds) is true of the program, with no condition ahead of it. Printed by wip/dev/pack2.py out of the texts in wip. -/
import Derived.Test.YthalkfdkbalpmaaGreatW4
set_option linter.unusedVariables false
set_option linter.unusedSimpArgs false
namespace Go.Proofs.YthalkfdkbalpmaaGreat.Rf
open Go
noncomputable section
theorem xZ(k:Int):zU N0 (k,())=some ((if k=0\/k=1 then 0 else if k=4\/k=5\/k=6 then 1 else if k=2\/k=3 then 2 else -1,()),()):=by
 unfold zU
 simp only[aL]
 by_cases h0:k=0
 ·subst h0;rfl
 by_cases h1:k=1
 ·subst h1;rfl
 by_cases h2:k=2
 ·subst h2;rfl
 by_cases h3:k=3
 ·subst h3;rfl
 by_cases h4:k=4
 ·subst h4;rfl
 by_cases h5:k=5
 ·subst h5;rfl
 by_cases h6:k=6
 ·subst h6;rfl
 simp[h0,h1,h2,h3,h4,h5,h6]
theorem Al{a b:Nat}(ha:a<=1000000)(hb:b<=1000000):((a+b)*40<=140737488355328)/\(a+b<=9223372036854775807):=by omega
theorem IS{k:Int}(hk:k=4\/k=5\/k=6){l:List Pc}(hl:l.length<=1000000):us N0 (k,([l],()))=some ((l++[(k,zS)],()),()):=by
 have ht:(if k=0\/k=1 then(0:Int)else if k=4\/k=5\/k=6 then 1 else if k=2\/k=3 then 2 else -1)=1:=by
  have:¬(k=0\/k=1):=by omega
  rw[if_neg this,if_pos hk]
 unfold us
 simp only[aL,xZ,ht,aC]
 have e1:(!(decide ((1:Int)=(([l]:List (List Pc)).length:Nat))))=false:=rfl
 have e2:decide (((([l]:List (List Pc)).length:Nat):Int)=0)=false:=rfl
 rw[e1,cond_false,e2,cond_false]
 refine aZ (λm x r=>((m=1/\x=((),(([]:List Pc),((0:Int),()))))\/(m=0/\x=((),(l,((1:Int),())))))/\r=some ((l++[(k,zS)],()),())) ?_ N0 1 _ _ (by unfold N0;omega) ⟨.inl ⟨rfl,rfl⟩,rfl⟩
 rintro m x r ⟨hx,rfl⟩ kk hkk
 rcases hx with⟨rfl,rfl⟩|⟨rfl,rfl⟩
 ·have l1:decide ((0:Int)<(([l]:List (List Pc)).length:Nat))=true:=rfl
  have g0:([l]:List (List Pc))[((0:Int)).toNat]?=some l:=rfl
  have n0:(0:Int)<=0:=by omega
  obtain⟨f1,f2⟩:=Al (a:=([]:List Pc).length) (b:=l.length) (by simp) hl
  have w3:IntKind.wrap .i64 ((0:Int)+1)=1:=bC (by omega) (by omega)
  rw[l1,cond_true,if_pos n0,g0]
  simp only[if_pos f1,if_pos f2,w3,bM]
  exact hkk 0 _ _ (by omega) ⟨.inr ⟨rfl,rfl⟩,rfl⟩
 ·have l1:decide ((1:Int)<(([l]:List (List Pc)).length:Nat))=false:=rfl
  obtain⟨f1,f2⟩:=Al (a:=l.length) (b:=([(k,[0,0,0,0])]:List Pc).length) hl (by simp)
  rw[l1,cond_false,if_pos f1,if_pos f2]
  rfl
theorem pX{k:Int}(hk:k=2\/k=3){l l2:List Pc}(hl:l.length<=100000)(hl2:l2.length<=100000):us N0 (k,([l,l2],()))=some ((l++l2++[(k,zS)],()),()):=by
 have ht:(if k=0\/k=1 then(0:Int)else if k=4\/k=5\/k=6 then 1 else if k=2\/k=3 then 2 else -1)=2:=by
  have h1:¬(k=0\/k=1):=by omega
  have h2:¬(k=4\/k=5\/k=6):=by omega
  rw[if_neg h1,if_neg h2,if_pos hk]
 unfold us
 simp only[aL,xZ,ht,aC]
 have e1:(!(decide ((2:Int)=(([l,l2]:List (List Pc)).length:Nat))))=false:=rfl
 have e2:decide (((([l,l2]:List (List Pc)).length:Nat):Int)=0)=false:=rfl
 rw[e1,cond_false,e2,cond_false]
 refine aZ (λm x r=>((m=2/\x=((),(([]:List Pc),((0:Int),()))))\/(m=1/\x=((),(l,((1:Int),()))))\/(m=0/\x=((),(l++l2,((2:Int),())))))/\r=some ((l++l2++[(k,zS)],()),())) ?_ N0 2 _ _ (by unfold N0;omega) ⟨.inl ⟨rfl,rfl⟩,rfl⟩
 rintro m x r ⟨hx,rfl⟩ kk hkk
 rcases hx with⟨rfl,rfl⟩|⟨rfl,rfl⟩|⟨rfl,rfl⟩
 ·have l1:decide ((0:Int)<(([l,l2]:List (List Pc)).length:Nat))=true:=rfl
  have g0:([l,l2]:List (List Pc))[((0:Int)).toNat]?=some l:=rfl
  have n0:(0:Int)<=0:=by omega
  obtain⟨f1,f2⟩:=Al (a:=([]:List Pc).length) (b:=l.length) (by simp) (by omega)
  have w3:IntKind.wrap .i64 ((0:Int)+1)=1:=bC (by omega) (by omega)
  rw[l1,cond_true,if_pos n0,g0]
  simp only[if_pos f1,if_pos f2,w3,bM]
  exact hkk 1 _ _ (by omega) ⟨.inr (.inl ⟨rfl,rfl⟩),rfl⟩
 ·have l1:decide ((1:Int)<(([l,l2]:List (List Pc)).length:Nat))=true:=rfl
  have g0:([l,l2]:List (List Pc))[((1:Int)).toNat]?=some l2:=rfl
  have n0:(0:Int)<=1:=by omega
  obtain⟨f1,f2⟩:=Al (a:=l.length) (b:=l2.length) (by omega) (by omega)
  have w3:IntKind.wrap .i64 ((1:Int)+1)=2:=bC (by omega) (by omega)
  rw[l1,cond_true,if_pos n0,g0]
  simp only[if_pos f1,if_pos f2,w3]
  exact hkk 0 _ _ (by omega) ⟨.inr (.inr ⟨rfl,rfl⟩),rfl⟩
 ·have l1:decide ((2:Int)<(([l,l2]:List (List Pc)).length:Nat))=false:=rfl
  obtain⟨f1,f2⟩:=Al (a:=(l++l2).length) (b:=([(k,[0,0,0,0])]:List Pc).length) (by simp;omega) (by simp)
  rw[l1,cond_false,if_pos f1,if_pos f2]
  rfl
abbrev RdF:=(List Int×(Int×Int))×Unit->Option ((List Pc×(Bool×Unit))×((List Int×(Int×Int))×Unit))
theorem fW{s:List Int}{i:Nat}{c:Int}(h1:i<s.length)(h2:ch s i=c):fj s i c=true:=by unfold fj;simp[h1,h2]
theorem iJ{s:List Int}{i:Nat}{c:Int}(h2:¬ch s i=c):fj s i c=false:=by unfold fj;simp[h2]
theorem Ps{s:List Int}(hb:Bytes s)(hs:s.length<=1600){q2 q3 q4 q5:RdF}{inner:Nat->Nat->Option (Rx×Nat)}{i d:Nat}(hd:d<=i)
 (hin:i<s.length->OkP s ((d+1:Nat):Int) (2*(s.length-(i+1))) (inner (i+1) (d+1)) (q2 (kst s (i+1) ((d+1:Nat):Int),()))) (cu:kg s (i+1) (inner (i+1) (d+1))):
 OkP s d (2*(s.length-i)) (mK inner s i d) (zY N0 q2 q3 q4 q5 (kst s i d,())):=by
 have hsm:s.length<=maxLen:=by unfold maxLen;omega
 have rL:=oE s hsm
 unfold zY
 dsimp only
 rw[ae (pU s hsm i d [124,41,42,43,63,93,47,34] (by simp[maxLen]))]
 simp only
 have hc:pT s i [124,41,42,43,63,93,47,34]=decide (s.length<=i\/ch s i∈([124,41,42,43,63,93,47,34]:List Int)):=by
  unfold pT
  rw[cd,aG,decide_eq_true_eq,decide_eq_true_eq,gJ]
  simp
 rw[hc]
 unfold mK
 by_cases h0:s.length<=i\/ch s i∈([124,41,42,43,63,93,47,34]:List Int)
 ·rw[if_pos h0,decide_eq_true h0,cond_true]
  exact⟨_,_,rfl,by simp⟩
 rw[if_neg h0,decide_eq_false h0,cond_false]
 have hlt:i<s.length:=by
  rcases ap i s.length with h|h
  ·exact h
  ·exact absurd (.inl h) h0
 rw[ae (rL i d 46)]
 simp only
 by_cases h1:ch s i=46
 ·rw[if_pos h1,fW hlt h1]
  simp only[cond_true,if_true,Dt,aC]
  rfl
 rw[if_neg h1,iJ h1]
 simp only[cond_false,av,if_false]
 rw[ae (rL i d 126)]
 simp only
 by_cases h2:ch s i=126
 ·rw[if_pos h2,fW hlt h2]
  simp only[cond_true,if_true]
  rfl
 rw[if_neg h2,iJ h2]
 simp only[cond_false,av,if_false]
 rw[ae (rL i d 40)]
 simp only
 by_cases h3:ch s i=40
 ·have h4:¬ch s i=91:=by omega
  rw[if_neg h4,if_pos h3,fW hlt h3]
  simp only[cond_true,if_true]
  have w1:IntKind.wrap .i64 ((d:Int)+1)=((d+1:Nat):Int):=bo (n:=1601) (by omega) (by simp[maxLen])
  have Pt:((kst s (i+1) (d:Int)).1,((kst s (i+1) (d:Int)).2.1,IntKind.wrap .i64 ((kst s (i+1) (d:Int)).2.2+1)))=kst s (i+1) ((d+1:Nat):Int):=by
   show(s,(((i+1:Nat):Int),IntKind.wrap .i64 ((d:Int)+1)))=_
   rw[w1];rfl
  rw[Pt]
  have hq:=hin hlt
  unfold OkP at hq
  cases hi2:inner (i+1) (d+1)with
  |none=>
   rw[hi2]at hq
   obtain⟨r,k,hq,hrl⟩:=hq
   rw[ae hq]
   simp only[aL,cond_false,ite_self]
   exact⟨_,_,rfl,by omega⟩
  |some p=>
   obtain⟨t,j⟩:=p
   rw[hi2]at hq
   obtain⟨r1,r2,r3,r4⟩:=cu t j hi2
   have hpl:=t.aU
   rw[ae hq]
   simp only[aL,cond_true]
   have w2:IntKind.wrap .i64 ((kst s j ((d+1:Nat):Int)).2.2-1)=(d:Int):=by
    show IntKind.wrap .i64 (((d+1:Nat):Int)-1)=_
    rw[bC (by omega) (by omega)];omega
   simp only[w2]
   have UH:((kst s j ((d+1:Nat):Int)).1,((kst s j ((d+1:Nat):Int)).2.1,(d:Int)))=kst s j (d:Int):=rfl
   rw[UH]
   by_cases h99:99<=d
   ·rw[if_pos h99,decide_eq_false (by omega),cond_false]
    exact⟨_,_,rfl,by omega⟩
   ·rw[if_neg h99,decide_eq_true (by omega),cond_true,ae (rL j d 41)]
    simp only
    by_cases h41:j<s.length/\ch s j=41
    ·rw[if_pos h41,fW h41.1 h41.2]
     rfl
    ·rw[if_neg h41]
     have:fj s j 41=false:=by
      unfold fj
      rw[im,decide_eq_false_iff_not,decide_eq_false_iff_not]
      by_cases h:j<s.length
      ·exact .inr λh2=>h41 ⟨h,h2⟩
      ·exact .inl h
     rw[this]
     exact⟨_,_,rfl,by omega⟩
 rw[iJ h3]
 simp only[cond_false,av,if_false]
 rw[ae (rL i d 91)]
 simp only
 by_cases h4:ch s i=91
 ·rw[if_pos h4,fW hlt h4]
  simp only[cond_true,if_true]
  have hq:=Ms hb hsm (show i+1<=s.length by omega) (d:Int)
  unfold OkP at hq
  cases hbr:brS s (i+1)with
  |none=>
   rw[hbr]at hq
   obtain⟨r,k,hq,hrl⟩:=hq
   rw[ae hq]
   exact⟨_,_,rfl,by show r.length<=_;omega⟩
  |some p=>
   obtain⟨t,j⟩:=p
   rw[hbr]at hq
   simp only at hq
   rw[ae hq]
   rfl
 rw[if_neg h4,if_neg h3,iJ h4]
 simp only[cond_false,av,if_false]
 rw[ae (xX hb hsm (oe hlt) d)]
 unfold rdK
 cases hrd:rdS (s.drop i)with
 |none=>
  simp only
  rw[ae (Dw (c:=0) ⟨by omega,by omega⟩)]
  exact⟨_,_,rfl,by simp;omega⟩
 |some p=>
  obtain⟨c,n⟩:=p
  obtain⟨r1,_,_⟩:=kG (hb.drop i) hrd
  simp only
  rw[ae (Dw r1)]
  rfl
end
noncomputable section
theorem Gb{s:List Int}(hb:Bytes s)(hs:s.length<=1600){q2 q3 q4 q5:RdF}{inner:Nat->Nat->Option (Rx×Nat)}{i d:Nat}{B:Nat}
 (ew:OkP s d B (mK inner s i d) (q5 (kst s i d,()))) (cu:kg s i (mK inner s i d)):
 OkP s d 0 (kF inner s i d) (zX N0 q2 q3 q4 q5 (kst s i d,())):=by
 have hsm:s.length<=maxLen:=by unfold maxLen;omega
 have rL:=oE s hsm
 unfold zX
 dsimp only
 unfold kF
 unfold OkP at ew
 cases ho:mK inner s i d with
 |none=>
  rw[ho]at ew
  obtain⟨r,k,hq,hrl⟩:=ew
  rw[ae hq]
  refine eu (λm x=>m=0) (OkP s d 0 none) ?_ N0 0 _ (by unfold N0;omega) rfl
  rintro m x hm k hk
  exact⟨_,_,rfl,by simp⟩
 |some p=>
  obtain⟨t0,j0⟩:=p
  rw[ho]at ew
  simp only at ew
  have hr0:=cu t0 j0 ho
  rw[ae ew]
  simp only
  generalize hrs:rH s s.length.succ j0 t0=res
  refine eu (λm x=>∃ (j:Nat) (t:Rx) (cf:Nat),x=((kst s j d,()),(t.post,()))/\Res s i t j/\s.length-j<cf/\m=s.length-j/\rH s cf j t=res) (OkP s d 0 res) ?_ N0 (s.length-j0) _ (by unfold N0;omega) ⟨j0,t0,_,rfl,hr0,by omega,rfl,hrs⟩
  rintro m x ⟨j,t,cf,rfl,hr,hf,hm,hl⟩ k hk
  obtain⟨cf,rfl⟩:∃ q,cf=q+1:=⟨cf-1,by omega⟩
  simp only[rH]at hl
  simp only[aL,cond_true]
  have IT:∀ kk:Int,(kk=4\/kk=5\/kk=6)->us N0 (kk,([t.post],()))=some (((Rx.rep kk t).post,()),()):=λkk hkk=>by
   rw[IS hkk (by rw[t.aU];obtain⟨_,h1,h2,_⟩:=hr;omega)]
   rfl
  have go:j<s.length->∀ kk:Int,kk=iI (ch s j)->rH s cf (j+1) (.rep (iI (ch s j)) t)=res->OkP s d 0 res (k ((kst s (j+1) d,()),((Rx.rep kk t).post,()))):=by
   intro hlt kk hkk hl
   obtain⟨h1,h2,h3,h4⟩:=hr
   exact hk (s.length-(j+1)) _ (by omega) ⟨j+1,.rep kk t,cf,rfl,⟨by omega,by omega,by simp only[Rx.len];omega,by rw[hkk];exact rK _,h4⟩,by omega,rfl,by rw[hkk];exact hl⟩
  rw[ae (rL j d 42)]
  simp only
  by_cases hc:j<s.length/\ch s j∈([42,43,63]:List Int)
  ·rw[if_pos hc]at hl
   obtain⟨hlt,lv⟩:=hc
   by_cases h1:ch s j=42
   ·rw[fW hlt h1]
    simp only[cond_true,if_true]
    rw[ae (IT 4 (by omega))]
    exact go hlt 4 (by rw[h1];rfl) hl
   ·rw[iJ h1]
    simp only[cond_false,av,if_false]
    rw[ae (rL j d 43)]
    simp only
    by_cases h2:ch s j=43
    ·rw[fW hlt h2]
     simp only[cond_true,if_true]
     rw[ae (IT 5 (by omega))]
     exact go hlt 5 (by rw[h2];rfl) hl
    ·rw[iJ h2]
     simp only[cond_false,av,if_false]
     rw[ae (rL j d 63)]
     simp only
     have h3:ch s j=63:=by simpa [h1,h2]using lv
     rw[fW hlt h3]
     simp only[cond_true,if_true]
     rw[ae (IT 6 (by omega))]
     exact go hlt 6 (by rw[h3];rfl) hl
  ·rw[if_neg hc]at hl
   have hno:∀ c:Int,c∈([42,43,63]:List Int)->fj s j c=false:=by
    intro c hcm
    unfold fj
    rw[im,decide_eq_false_iff_not,decide_eq_false_iff_not]
    by_cases h:j<s.length
    ·exact .inr λh2=>hc ⟨h,h2 ▸ hcm⟩
    ·exact .inl h
   rw[hno 42 (by simp)]
   simp only[cond_false,av,if_false]
   rw[ae (rL j d 43)]
   simp only
   rw[hno 43 (by simp)]
   simp only[cond_false,av,if_false]
   rw[ae (rL j d 63)]
   simp only
   rw[hno 63 (by simp)]
   simp only[cond_false,av,if_false]
   subst hl
   rfl
theorem Pu{s:List Int}(hb:Bytes s)(hs:s.length<=1600){q2 q3 q4 q5:RdF}{inner:Nat->Nat->Option (Rx×Nat)}{i d:Nat}(hi:i<=s.length)
 (bD:∀ j,i<=j->j<=s.length->OkP s d 0 (kF inner s j d) (q4 (kst s j d,()))) (cu:∀ j,i<=j->kg s j (kF inner s j d)):
 OkP s d (2*(s.length-i)) (lF inner s i d) (zW N0 q2 q3 q4 q5 (kst s i d,())):=by
 have hsm:s.length<=maxLen:=by unfold maxLen;omega
 unfold zW
 dsimp only
 unfold lF
 have ew:=bD i (au _) hi
 unfold OkP at ew
 cases ho:kF inner s i d with
 |none=>
  rw[ho]at ew
  obtain⟨r,k,hq,hrl⟩:=ew
  rw[ae hq]
  refine eu (λm x=>m=0/\x=((k,()),(r,(false,())))) (OkP s d (2*(s.length-i)) none) ?_ N0 0 _ (by unfold N0;omega) ⟨rfl,rfl⟩
  rintro m x ⟨_,rfl⟩ k hk
  simp only[aL,cond_false]
  exact⟨_,_,rfl,by omega⟩
 |some p=>
  obtain⟨t0,j0⟩:=p
  rw[ho]at ew
  simp only at ew
  have hr0:=cu i (au _) t0 j0 ho
  rw[ae ew]
  simp only
  generalize hrs:sQ inner s d s.length.succ j0 t0=res
  refine eu (λm x=>(∃ (j:Nat) (t:Rx) (cf:Nat),x=((kst s j d,()),(t.post,(true,())))/\Res s i t j/\s.length-j<cf/\m=s.length-j+1/\sQ inner s d cf j t=res)\/(∃ r k,x=((k,()),(r,(false,())))/\r.length<=2*(s.length-i)/\res=none/\m=0)) (OkP s d (2*(s.length-i)) res) ?_ N0 (s.length-j0+1) _ (by unfold N0;omega) (.inl ⟨j0,t0,_,rfl,hr0,by omega,rfl,hrs⟩)
  rintro m x (⟨j,t,cf,rfl,hr,hf,hm,hl⟩|⟨r,kk,rfl,hrl,rfl,rfl⟩) k hk
  ·obtain⟨cf,rfl⟩:∃ q,cf=q+1:=⟨cf-1,by omega⟩
   simp only[sQ]at hl
   simp only[aL,cond_true]
   rw[ae (pU s hsm j d [124,41] (by simp[maxLen]))]
   simp only
   have hc:pT s j [124,41]=decide (¬(j<s.length/\ch s j∉([124,41]:List Int))):=by
    unfold pT
    rw[cd,aG,decide_eq_true_eq,decide_eq_true_eq,gJ]
    simp only[aA,cq,or_false,decide_eq_true_eq]
    constructor
    ·rintro(h|⟨c,hc,h⟩)
     ·omega
     ·rintro⟨_,h2⟩;exact h2 (by rw[h];exact hc)
    ·intro h
     by_cases hj:j<s.length
     ·right
      refine⟨ch s j,?_,rfl⟩
      by_cases h2:ch s j=124\/ch s j=41
      ·exact h2
      ·exact absurd ⟨hj,h2⟩ h
     ·left;omega
   rw[hc]
   by_cases hgo:j<s.length/\ch s j∉([124,41]:List Int)
   ·rw[if_pos hgo]at hl
    rw[decide_eq_false (by simpa using hgo)]
    simp only[aJ,cond_true]
    obtain⟨g1,g2,g3,g4⟩:=hr
    have hq:=bD j (by omega) (by omega)
    unfold OkP at hq
    cases h2:kF inner s j d with
    |none=>
     rw[h2]at hq hl
     obtain⟨r,kx,hq,hrl⟩:=hq
     rw[ae hq]
     simp only
     have hr0:r=[]:=dG (by omega)
     subst hr0
     rw[ae (pX (.inl rfl) (by rw[t.aU];omega) (by simp))]
     exact hk 0 _ (by omega) (.inr ⟨_,_,rfl,by simp[t.aU];omega,hl.symm,rfl⟩)
    |some p=>
     obtain⟨t2,j2⟩:=p
     rw[h2]at hq hl
     simp only at hq hl
     obtain⟨f1,f2,f3,f4⟩:=cu j (by omega) t2 j2 h2
     rw[ae hq]
     simp only
     rw[ae (pX (.inl rfl) (by rw[t.aU];omega) (by rw[t2.aU];omega))]
     exact hk (s.length-j2+1) _ (by omega) (.inl ⟨j2,.cat t t2,cf,rfl,⟨by omega,by omega,by simp only[Rx.len];omega,g4,f4⟩,by omega,rfl,hl⟩)
   ·rw[if_neg hgo]at hl
    rw[decide_eq_true hgo]
    simp only[aB,cond_false]
    subst hl
    rfl
  ·simp only[aL,cond_false]
   exact⟨_,_,rfl,hrl⟩
theorem Pv{s:List Int}(hb:Bytes s)(hs:s.length<=1600){q2 q3 q4 q5:RdF}{inner:Nat->Nat->Option (Rx×Nat)}{i d:Nat}(hi:i<=s.length)
 (x4:∀ j,i<=j->j<=s.length->OkP s d (2*(s.length-j)) (lF inner s j d) (q3 (kst s j d,()))) (cu:∀ j,i<=j->kg s j (lF inner s j d)):
 OkP s d (2*(s.length-i)) (B7 inner s i d) (zV N0 q2 q3 q4 q5 (kst s i d,())):=by
 have hsm:s.length<=maxLen:=by unfold maxLen;omega
 have rL:=oE s hsm
 unfold zV
 dsimp only
 unfold B7
 have ew:=x4 i (au _) hi
 unfold OkP at ew
 cases ho:lF inner s i d with
 |none=>
  rw[ho]at ew
  obtain⟨r,k,hq,hrl⟩:=ew
  rw[ae hq]
  refine eu (λm x=>m=0/\x=((k,()),(r,(false,())))) (OkP s d (2*(s.length-i)) none) ?_ N0 0 _ (by unfold N0;omega) ⟨rfl,rfl⟩
  rintro m x ⟨_,rfl⟩ k hk
  simp only[aL,cond_false]
  exact⟨_,_,rfl,by omega⟩
 |some p=>
  obtain⟨t0,j0⟩:=p
  rw[ho]at ew
  simp only at ew
  have hr0:=cu i (au _) t0 j0 ho
  rw[ae ew]
  simp only
  generalize hrs:sR inner s d s.length.succ j0 t0=res
  refine eu (λm x=>(∃ (j:Nat) (t:Rx) (cf:Nat),x=((kst s j d,()),(t.post,(true,())))/\Res s i t j/\s.length-j<cf/\m=s.length-j+1/\sR inner s d cf j t=res)\/(∃ r k,x=((k,()),(r,(false,())))/\r.length<=2*(s.length-i)/\res=none/\m=0)) (OkP s d (2*(s.length-i)) res) ?_ N0 (s.length-j0+1) _ (by unfold N0;omega) (.inl ⟨j0,t0,_,rfl,hr0,by omega,rfl,hrs⟩)
  rintro m x (⟨j,t,cf,rfl,hr,hf,hm,hl⟩|⟨r,kk,rfl,hrl,rfl,rfl⟩) k hk
  ·obtain⟨cf,rfl⟩:∃ q,cf=q+1:=⟨cf-1,by omega⟩
   simp only[sR]at hl
   simp only[aL,cond_true]
   rw[ae (rL j d 124)]
   simp only
   by_cases hgo:j<s.length/\ch s j=124
   ·rw[if_pos hgo]at hl
    rw[fW hgo.1 hgo.2]
    simp only[if_true,cond_true]
    obtain⟨g1,g2,g3,g4⟩:=hr
    have hq:=x4 (j+1) (by omega) (by omega)
    unfold OkP at hq
    cases h2:lF inner s (j+1) d with
    |none=>
     rw[h2]at hq hl
     obtain⟨r,kx,hq,hrl⟩:=hq
     rw[ae hq]
     simp only
     rw[ae (pX (.inr rfl) (by rw[t.aU];omega) (by omega))]
     exact hk 0 _ (by omega) (.inr ⟨_,_,rfl,by simp[t.aU];omega,hl.symm,rfl⟩)
    |some p=>
     obtain⟨t2,j2⟩:=p
     rw[h2]at hq hl
     simp only at hq hl
     obtain⟨f1,f2,f3,f4⟩:=cu (j+1) (by omega) t2 j2 h2
     rw[ae hq]
     simp only
     rw[ae (pX (.inr rfl) (by rw[t.aU];omega) (by rw[t2.aU];omega))]
     exact hk (s.length-j2+1) _ (by omega) (.inl ⟨j2,.alt t t2,cf,rfl,⟨by omega,by omega,by simp only[Rx.len];omega,g4,f4⟩,by omega,rfl,hl⟩)
   ·rw[if_neg hgo]at hl
    have:fj s j 124=false:=by
     unfold fj
     rw[im,decide_eq_false_iff_not,decide_eq_false_iff_not]
     by_cases h:j<s.length
     ·exact .inr λh2=>hgo ⟨h,h2⟩
     ·exact .inl h
    rw[this]
    simp only[av,if_false,cond_false]
    subst hl
    rfl
  ·simp only[aL,cond_false]
   exact⟨_,_,rfl,hrl⟩
end
noncomputable section
theorem Pw{s:List Int}(hb:Bytes s)(hs:s.length<=1600):∀ (n D i d:Nat),4*n<=D->s.length-i<n->i<=s.length->d<=i->OkP s d (2*(s.length-i)) (kf s n i d) ((cV N0 D).1 (kst s i d,())):=by
 intro n
 induction n with
 |zero=>intro D i d _ h;omega
 |succ n ih=>
  intro D i d hD hn hi hd
  obtain⟨D,rfl⟩:∃ q,D=q+1+1+1+1:=⟨D-4,by omega⟩
  have cu:∀ i d,s.length-i<n->kg s i (kf s n i d):=λi d h=>j4 hb n i d h
  have ew:∀ j,i<=j->j<=s.length->OkP s d (2*(s.length-j)) (mK (kf s n) s j d) ((cV N0 (D+1)).2.2.2 (kst s j d,())):=λj hij hj=>
   Ps (q2:=(cV N0 (D)).1) (q3:=(cV N0 (D)).2.1) (q4:=(cV N0 (D)).2.2.1) (q5:=(cV N0 (D)).2.2.2) hb hs (bG hd hij) (λhlt=>ih D (j+1) (d+1) (by omega) (by omega) (by omega) (by omega)) (λt j2 h=>by
    rcases ap j s.length with hlt|hge
    ·exact cu (j+1) (d+1) (by omega) t j2 h
    ·cases n with
     |zero=>cases h
     |succ n=>exact j4 hb (n+1) (j+1) (d+1) (by omega) t j2 h)
  have Gc:∀ j,i<=j->kg s (j+1) (kf s n (j+1) (d+1)):=λj hij t j2 h=>by
   rcases ap j s.length with hlt|hge
   ·exact cu (j+1) (d+1) (by omega) t j2 h
   ·cases n with
    |zero=>cases h
    |succ n=>exact j4 hb (n+1) (j+1) (d+1) (by omega) t j2 h
  have bD:∀ j,i<=j->j<=s.length->OkP s d 0 (kF (kf s n) s j d) ((cV N0 (D+1+1)).2.2.1 (kst s j d,())):=λj hij hj=>
   Gb (q2:=(cV N0 (D+1)).1) (q3:=(cV N0 (D+1)).2.1) (q4:=(cV N0 (D+1)).2.2.1) (q5:=(cV N0 (D+1)).2.2.2) hb hs (ew j hij hj) (uA hb (Gc j hij))
  have x4:∀ j,i<=j->j<=s.length->OkP s d (2*(s.length-j)) (lF (kf s n) s j d) ((cV N0 (D+1+1+1)).2.1 (kst s j d,())):=λj hij hj=>
   Pu (q2:=(cV N0 (D+1+1)).1) (q3:=(cV N0 (D+1+1)).2.1) (q4:=(cV N0 (D+1+1)).2.2.1) (q5:=(cV N0 (D+1+1)).2.2.2) hb hs hj (λj2 hj2 hj3=>bD j2 (bG hij hj2) hj3) (λj2 hj2=>pV hb (Gc j2 (bG hij hj2)))
  exact Pv (q2:=(cV N0 (D+1+1+1)).1) (q3:=(cV N0 (D+1+1+1)).2.1) (q4:=(cV N0 (D+1+1+1)).2.2.1) (q5:=(cV N0 (D+1+1+1)).2.2.2) hb hs hi x4 (λj hij t j2 h=>pW hb n cu (by omega) t j2 h)
def IU(o:Except Int Rx):(List Pc×(Int×Unit))×Unit:=match o with
 |.ok t=>((t.post,(0,())),())
 |.error e=>(([],(e,())),())
theorem DC{s:List Int}(hb:Bytes s)(hsm:s.length<=maxLen):LP N0 (s,())=some (IU (gd s)):=by
 unfold LP gd
 dsimp only
 by_cases hs:1600<s.length
 ·rw[if_pos hs,decide_eq_true (show(1600:Int)<((s.length:Nat):Int) by omega),cond_true]
  rfl
 rw[if_neg hs,decide_eq_false (show ¬(1600:Int)<((s.length:Nat):Int) by omega),cond_false]
 have hq:OkP s ((0:Nat):Int) (2*(s.length-0)) (kf s s.length.succ 0 0) (O6 N0 (kst s 0 ((0:Nat):Int),())):=Pw hb (by omega) s.length.succ N0 0 0 (by unfold N0;omega) (by omega) (aH _) (au _)
 have hk:kst s 0 ((0:Nat):Int)=(s,((0:Int),(0:Int))):=rfl
 rw[hk]at hq
 unfold OkP at hq
 cases ho:kf s s.length.succ 0 0 with
 |none=>
  rw[ho]at hq
  obtain⟨r,k,hq,_⟩:=hq
  rw[ae hq]
  rfl
 |some p=>
  obtain⟨t,i⟩:=p
  rw[ho]at hq
  simp only at hq
  rw[ae hq]
  simp only[aL,aB,cond_false]
  have h1:decide ((kst s i ((0:Nat):Int)).2.1<((s.length:Nat):Int))=decide (i<s.length):=by
   rw[decide_eq_decide];show(i:Int)<_↔_;omega
  rw[h1]
  by_cases h2:i<s.length
  ·rw[if_pos h2,decide_eq_true h2];rfl
  rw[if_neg h2,decide_eq_false h2,cond_false]
  rw[t.aU]
  by_cases h3:400<t.len
  ·rw[if_pos h3,decide_eq_true (show(400:Int)<((t.len:Nat):Int) by omega)];rfl
  ·rw[if_neg h3,decide_eq_false (show ¬(400:Int)<((t.len:Nat):Int) by omega)];rfl
theorem rM{s:List Int}(hb:Bytes s){t:Rx}(h:gd s=.ok t):t.ok/\t.len<=400/\t.len+1<=2*s.length:=by
 unfold gd at h
 split at h
 ·cases h
 split at h
 ·cases h
 rename_i t2 i ho
 obtain⟨h1,h2,h3,h4⟩:=j4 hb _ _ _ (by omega) _ _ ho
 split at h
 ·cases h
 split at h
 ·cases h
 injection h with h
 subst h
 exact⟨h4,by omega,by omega⟩
end
noncomputable section
theorem aV{A R:Type}{J:A->Option R}{body:(A->Option R)->Option R}(x:A)(h:∀ K,body K=K x){r:Option R}(hr:J x=r):aw J body=r:=(h J).trans hr
theorem ek{A R:Type}{P:Option R->Prop}{J:A->Option R}{body:(A->Option R)->Option R}(x:A)(h:∀ K,body K=K x)(hr:P (J x)):P (aw J body):=by
 show P (body J)
 rw[h J];exact hr
def Mt(l:List Int)(c:Int):Bool:=l.any λb=>decide (b=c)
theorem IV(l:List Int)(c:Int):Mt l c=decide (c∈l):=by
 unfold Mt
 rw[cd,gJ,decide_eq_true_eq]
 constructor
 ·rintro⟨b,hb,h⟩
  rw[decide_eq_true_eq]at h
  exact h ▸ hb
 ·intro h
  exact⟨c,h,by simp⟩
theorem Mu(l:List Int)(hl:l.length<=maxLen)(c:Int):z6 N0 (l,(c,()))=some ((decide (c∈l),()),()):=by
 unfold z6
 simp only
 rw[<-IV]
 refine aZ (λm x r=>∃ j:Nat,x=((),((j:Int),()))/\m+j=l.length/\r=some ((Mt (l.drop j) c,()),())) ?_ N0 l.length _ _ (by have:=jY hl;omega) ⟨0,rfl,rfl,by rw[dn]⟩
 rintro m x r ⟨j,rfl,hm,rfl⟩ k hk
 simp only
 rcases ap j l.length with hj|hj
 ·have n1:(0:Int)<=(j:Int):=by omega
  rw[decide_eq_true (show(j:Int)<((l.length:Nat):Int) by omega),cond_true,if_pos n1,aa,ah hj]
  simp only[bo hj hl]
  unfold Mt
  rw[db hj,List.any_cons]
  cases hd:decide (l[j]=c)
  ·rw[cond_false,cP]
   exact hk (m-1) _ _ (by omega) ⟨j+1,rfl,by omega,rfl⟩
  ·rw[cond_true,dV]
 ·rw[decide_eq_false (show ¬(j:Int)<((l.length:Nat):Int) by omega),cond_false,kK hj]
  rfl
theorem pY(l:List Int)(hl:l.length<=maxLen)(c:Int):zZ N0 (l,(c,()))=some ((decide (c∈l),()),()):=by
 have:zZ=z6:=rfl
 rw[this];exact Mu l hl c
def rN(n:Nat):Int:=if n<10 then 48+(n:Int)else 87+(n:Int)
def IW(c:Nat):List Int:=if c=10 then [92,110]else if c=9 then [92,116]else if c=13 then [92,114]else
 if c<32\/126<c then [92,120,rN (c / 16),rN (c % 16)]else if c=92 then [92,92]else [(c:Int)]
theorem IX:∀ c:Fin 256,L7 N0 (((c.val:Nat):Int),(([]:List Int),()))=some ((IW c.val,()),()):=by decide +kernel
theorem IY{c:Nat}(h:c<256):L7 N0 ((c:Int),(([]:List Int),()))=some ((IW c,()),()):=IX ⟨c,h⟩
theorem IZ:∀ c:Fin 256,Io N0 (((c.val:Nat):Int),())=some ((mF ((c.val:Nat):Int),()),()):=by decide +kernel
theorem Mv{c:Int}(h:0<=c/\c<=255):Io N0 (c,())=some ((mF c,()),()):=by
 have:=IZ ⟨c.toNat,by omega⟩
 simp only[dh h.1]at this
 exact this
def Rz:List Int:=[48,49,50,51,52,53,54,55,56,57,97,98,99,100,101,102]
theorem Am:∀ q:Fin 16,cz Rz ((q.val:Nat):Int) (((q.val+1:Nat)):Int)=[rN q.val]:=by decide +kernel
theorem I0:∀ q:Fin 16,pS (rN q.val)=some ((q.val:Nat):Int):=by decide +kernel
theorem wC{q:Nat}(h:q<16):pS (rN q)=some (q:Int):=I0 ⟨q,h⟩
theorem wD{h v:Int}(e:pS h=some v):rN v.toNat=h:=by
 unfold pS at e
 unfold rN
 split at e
 ·injection e with e
  rw[if_pos (by omega)];omega
 ·split at e
  ·injection e with e
   rw[if_neg (by omega)];omega
  ·cases e
def mA(s:List Int)(c:Nat):Bool:=(decide (c=10)&&decide (s[1]?=some 110))||(decide (c=9)&&decide (s[1]?=some 116))||(decide (c=13)&&decide (s[1]?=some 114))
def mB(s:List Int)(c:Nat):Bool:=decide (s[1]?=some 120)&&(decide (s[2]?=some (rN (c / 16)))&&decide (s[3]?=some (rN (c % 16))))
theorem RA{r:List Int}{c:Nat}(h:mA (92::r) c=true):rdS (92::r)=some ((c:Int),2):=by
 unfold mA at h
 cases r with
 |nil=>simp at h
 |cons d r2=>
  simp only[jx,gD,bh,aG,ag,decide_eq_true_eq]at h
  rcases h with(⟨rfl,rfl⟩|⟨rfl,rfl⟩)|⟨rfl,rfl⟩ <;> rfl
theorem RB{r:List Int}{c:Nat}(hc:c<256)(h:mB (92::r) c=true):rdS (92::r)=some ((c:Int),4):=by
 unfold mB at h
 match r with
 |[]=>simp at h
 |[d]=>simp at h
 |[d,x]=>simp at h
 |d::x::y::r4=>
  simp only[jx,gD,bh,ag,decide_eq_true_eq]at h
  obtain⟨rfl,rfl,rfl⟩:=h
  have e1:=wC (q:=c / 16) (by omega)
  have e2:=wC (q:=c % 16) (by omega)
  simp only[rdS]
  rw[e1,e2]
  have:(16:Int)*((c / 16:Nat):Int)+((c % 16:Nat):Int)=(c:Int):=by omega
  simp
  omega
def I1(s:List Int):Option (Int×Nat):=match s[1]? with
 |some d=>if 32<=d/\d<=126/\mF d=false then some (d,2)else none
 |none=>none
theorem Mw{r:List Int}(hA:∀ c,c<256->mA (92::r) c=false)(hB:∀ c,c<256->mB (92::r) c=false):rdS (92::r)=I1 (92::r):=by
 match r with
 |[]=>rfl
 |d::r2=>
  have a1:=hA 10 (by omega)
  have a2:=hA 9 (by omega)
  have a3:=hA 13 (by omega)
  simp only[mA,jx,gD,bh]at a1 a2 a3
  have d1:¬d=110:=by simpa using a1
  have d2:¬d=116:=by simpa using a2
  have d3:¬d=114:=by simpa using a3
  simp only[rdS,I1,jx,gD,ne_eq,not_true_eq_false,if_false,d1,d2,d3]
  by_cases d4:d=120
  ·subst d4
   rw[if_pos rfl]
   have hw:¬((32:Int)<=120/\(120:Int)<=126/\mF 120=false):=by decide
   rw[if_neg hw]
   match r2 with
   |[]=>rfl
   |[x]=>rfl
   |x::y::r4=>
    simp only
    cases hx:pS x with
    |none=>rfl
    |some a=>
     cases hy:pS y with
     |none=>rfl
     |some b=>
      exfalso
      have ha:=oD hx
      have hb:=oD hy
      have:=hB (16*a+b).toNat (by omega)
      have e1:(16*a+b).toNat / 16=a.toNat:=by omega
      have e2:(16*a+b).toNat % 16=b.toNat:=by omega
      simp[mB,e1,e2,wD hx,wD hy]at this
  ·rw[if_neg d4]
   cases hw:mF d
   ·by_cases h1:32<=d/\d<=126
    ·rw[if_neg (by simp;omega),if_pos ⟨h1.1,h1.2,rfl⟩]
    ·rw[if_pos (by simp;omega),if_neg (λh=>h1 ⟨h.1,h.2.1⟩)]
   ·rw[if_pos (.inl rfl),if_neg (λh=>by cases h.2.2)]
theorem x5{s:List Int}(hb:Bytes s)(hs:s.length<=maxLen):FX N0 (s,())=some (rdR (rdS s),()):=by
 unfold FX
 dsimp only
 cases s with
 |nil=>rfl
 |cons c r=>
  have e0:decide ((c::r:List Int)=[])=false:=rfl
  have n0:(0:Int)<=0:=by omega
  have g0:(c::r)[((0:Int)).toNat]?=some c:=rfl
  rw[e0,cond_false,if_pos n0,g0]
  simp only[if_pos n0]
  by_cases hc:c=92
  ·subst hc
   simp only[decide_true,aB,cond_false]
   refine aZ (λm x q=>∃ c:Nat,x=((),((c:Int),()))/\m+c=256/\(∀ c',c' < c->mA (92::r) c'=false/\mB (92::r) c'=false)/\q=some (rdR (rdS (92::r)),())) ?_ N0 256 _ _ (by unfold N0;omega) ⟨0,rfl,rfl,λc' h=>by omega,rfl⟩
   rintro m x q ⟨c,rfl,hm,fT,rfl⟩ k hk
   dsimp only
   rcases ap c 256 with hc|hc
   ·have w8:IntKind.wrap .u8 (c:Int)=(c:Int):=jZ hc
    rw[decide_eq_true (show(c:Int)<256 by omega),cond_true,w8,ae (IY hc)]
    dsimp only
    refine aV ((),(mA (92::r) c,())) (λK=>?_) ?_
    ·have An:decide (cz (92::r) 0 2=[92,110])=decide ((92::r:List Int)[1]?=some 110)/\decide (cz (92::r) 0 2=[92,116])=decide ((92::r:List Int)[1]?=some 116)/\decide (cz (92::r) 0 2=[92,114])=decide ((92::r:List Int)[1]?=some 114):=by
      unfold cz
      cases r with
      |nil=>exact⟨rfl,rfl,rfl⟩
      |cons d r2=>simp
     have hlen:∀ v:Int,decide (1<(((92::r:List Int).length:Nat):Int))=false->decide ((92::r:List Int)[1]?=some v)=false:=by
      intro v h
      cases r with
      |nil=>rfl
      |cons d r2=>simp at h;omega
     have DD:decide (1<(((92::r:List Int).length:Nat):Int))=true->(0:Int)<=0/\(0:Int)<=2/\(2:Int)<=(((92::r:List Int).length:Nat):Int):=by
      intro h
      rw[decide_eq_true_eq]at h
      omega
     have h12:∀ (v:Int) (b:Bool),v≠92->b=decide ((92::r:List Int)[1]?=some v)->decide (cz (92::r) 0 2=[92,v])=decide ((92::r:List Int)[1]?=some v)->
      (bif decide ((([92,v]:List Int).length:Int)=2)then(if(0:Int)<=1 then(match([92,v]:List Int)[((1:Int)).toNat]? with|some v12=>(bif(!decide (v12=92))then(bif decide (1<(((92::r:List Int).length:Nat):Int))then(if(0:Int)<=0/\(0:Int)<=2/\(2:Int)<=(((92::r:List Int).length:Nat):Int)then K ((),(decide (cz (92::r) 0 2=[92,v]),()))else none)else K ((),(false,())))else K ((),(false,())))|none=>none)else none)else K ((),(false,())))=K ((),(b,())):=by
      intro v b hv hb hcu
      have e1:decide ((([92,v]:List Int).length:Int)=2)=true:=rfl
      have e2:([92,v]:List Int)[((1:Int)).toNat]?=some v:=rfl
      have e3:(!decide (v=92))=true:=by simp[hv]
      rw[e1,cond_true,if_pos (show(0:Int)<=1 by omega),e2]
      dsimp only
      rw[e3,cond_true]
      cases hl:decide (1<(((92::r:List Int).length:Nat):Int))
      ·rw[cond_false,hb,hlen v hl]
      ·rw[cond_true,if_pos (DD hl),hcu,hb]
     unfold IW mA
     by_cases h1:c=10
     ·rw[if_pos h1]
      refine h12 110 _ (by decide) ?_ An.1
      simp[h1]
     rw[if_neg h1]
     by_cases h2:c=9
     ·rw[if_pos h2]
      refine h12 116 _ (by decide) ?_ An.2.1
      simp[h2]
     rw[if_neg h2]
     by_cases h3:c=13
     ·rw[if_pos h3]
      refine h12 114 _ (by decide) ?_ An.2.2
      simp[h3]
     rw[if_neg h3]
     have e:((decide (c=10)&&decide ((92::r:List Int)[1]?=some 110))||(decide (c=9)&&decide ((92::r:List Int)[1]?=some 116))||(decide (c=13)&&decide ((92::r:List Int)[1]?=some 114)))=false:=by simp[h1,h2,h3]
     rw[e]
     split
     ·rfl
     split
     ·rfl
     ·rfl
    ·dsimp only
     cases hA:mA (92::r) c
     ·rw[cond_false]
      have w16:IntKind.wrap .i64 (Int.tdiv (c:Int) 16)=((c / 16:Nat):Int):=by
       have:Int.tdiv (c:Int) 16=((c / 16:Nat):Int):=by
        rw[show(16:Int)=((16:Nat):Int) by rfl];exact kV c 16 |>.symm
       rw[this];exact bH (by omega)
      have t16:Int.tmod (c:Int) 16=((c % 16:Nat):Int):=by
       rw[show(16:Int)=((16:Nat):Int) by rfl];exact oa c 16 |>.symm
      have w17:IntKind.wrap .i64 (((c / 16:Nat):Int)+1)=((c / 16+1:Nat):Int):=by rw[<-bH (n:=c / 16+1) (by omega)];rfl
      have w18:IntKind.wrap .i64 (((c % 16:Nat):Int)+1)=((c % 16+1:Nat):Int):=by rw[<-bH (n:=c % 16+1) (by omega)];rfl
      have w19:IntKind.wrap .i64 ((c:Int)+1)=((c+1:Nat):Int):=by rw[<-bH (n:=c+1) (by omega)];rfl
      have c1:=Am ⟨c / 16,by omega⟩
      have c2:=Am ⟨c % 16,by omega⟩
      unfold Rz at c1 c2
      dsimp only at c1 c2
      have n16:¬((16:Int)=0):=by omega
      rw[w16,t16,w17,w18,w19,if_neg n16,if_neg n16,if_pos (⟨by omega,by omega,by simp;omega⟩),c1,if_pos (by simp),if_neg n16,if_neg n16,if_pos (⟨by omega,by omega,by simp;omega⟩),c2,if_pos (by simp)]
      refine aV ((),(mB (92::r) c,())) (λK=>?_) ?_
      ·unfold mB
       match r with
       |[]=>rfl
       |[d]=>simp
       |[d,x]=>simp
       |d::x::y::r4=>
        have l3:decide ((3:Int)<(((92::d::x::y::r4:List Int).length:Nat):Int))=true:=by
         rw[decide_eq_true_eq];simp;omega
        rw[l3,cond_true,if_pos ⟨by omega,by omega,by simp;omega⟩]
        have e:decide (cz (92::d::x::y::r4) 0 4=[92,120]++[rN (c / 16)]++[rN (c % 16)])=(decide (d=120)&&(decide (x=rN (c / 16))&&decide (y=rN (c % 16)))):=by
         rw[<-Bool.decide_and,<-Bool.decide_and,decide_eq_decide]
         unfold cz
         simp
        rw[e]
        simp
      ·dsimp only
       cases hB:mB (92::r) c
       ·rw[cond_false]
        refine hk (m-1) _ _ (by omega) ⟨c+1,rfl,by omega,λc' hc'=>?_,rfl⟩
        by_cases e:c'=c
        ·subst e;exact⟨hA,hB⟩
        ·exact fT c' (by omega)
       ·rw[cond_true,RB hc hB]
        rfl
     ·rw[cond_true,RA hA]
      rfl
   ·have hc2:c=256:=by omega
    subst hc2
    rw[decide_eq_false (by omega),cond_false,Mw (λc hc=>(fT c hc).1) (λc hc=>(fT c hc).2)]
    unfold I1
    match r with
    |[]=>rfl
    |d::r2=>
     have hd:=hb d (by simp)
     have l1:decide ((1:Int)<(((92::d::r2:List Int).length:Nat):Int))=true:=by
      rw[decide_eq_true_eq];simp;omega
     have n1:(0:Int)<=1:=by omega
     have g1:(92::d::r2:List Int)[((1:Int)).toNat]?=some d:=rfl
     have g2:(92::d::r2:List Int)[1]?=some d:=rfl
     rw[g2]
     dsimp only
     refine aV ((),(decide (32<=d/\d<=126/\mF d=false),())) (λK=>?_) ?_
     ·rw[l1,cond_true,if_pos n1,g1]
      dsimp only
      by_cases h1:32<=d
      ·rw[decide_eq_true h1,cond_true]
       by_cases h2:d<=126
       ·rw[decide_eq_true h2,cond_true,ae (Mv hd)]
        cases mF d <;> simp[h1,h2]
       ·rw[decide_eq_false h2,cond_false]
        simp[h2]
      ·rw[decide_eq_false h1,cond_false]
       simp[h1]
     ·dsimp only
      by_cases h:32<=d/\d<=126/\mF d=false
      ·rw[decide_eq_true h,cond_true,if_pos h,if_pos n1,g1]
       rfl
      ·rw[decide_eq_false h,cond_false,if_neg h]
       rfl
  ·have hc2:decide (c=92)=false:=decide_eq_false hc
   rw[hc2]
   simp only[aJ,cond_true,rdS,ne_eq,hc,not_false_eq_true,if_true]
   rfl
end
noncomputable section
theorem DE(f:Nat->Bool){i:Nat}(h:i<256):FW N0 (ofB f,((i:Int),()))=some ((f i,()),()):=by
 unfold FW
 dsimp only
 have hw:i / 64<4:=by omega
 have hl:i % 64<64:=eR _ (by omega)
 have w1:IntKind.wrap .i64 (Int.tdiv (i:Int) 64)=((i / 64:Nat):Int):=by rw[IK];exact bH (by omega)
 have g:=jq (l:=f) hw
 have n1:¬((64:Int)=0):=by omega
 have n2:¬((2:Int)=0):=by omega
 have n3:(0:Int)<=((i / 64:Nat):Int):=by omega
 rw[if_neg n1,w1,if_pos n3,aa,g]
 simp only[if_neg n1,if_neg n2,IL]
 refine aZ (λm x q=>∃ j:Nat,x=((),(((br f (i / 64) / 2 ^ j:Nat):Int),((j:Int),())))/\m+j=i % 64/\q=some ((f i,()),())) ?_ N0 (i % 64) _ _ (by unfold N0;omega) ⟨0,by simp,by omega,rfl⟩
 rintro m x q ⟨j,rfl,hm,rfl⟩ k hk
 dsimp only
 have hlt:=dW f (i / 64)
 by_cases hj:j<i % 64
 ·have w2:IntKind.wrap .u64 (Int.tdiv ((br f (i / 64) / 2 ^ j:Nat):Int) 2)=((br f (i / 64) / 2 ^ (j+1):Nat):Int):=by
   have e:Int.tdiv ((br f (i / 64) / 2 ^ j:Nat):Int) 2=((br f (i / 64) / 2 ^ j / 2:Nat):Int):=by
    rw[show(2:Int)=((2:Nat):Int) by rfl];exact kV _ 2 |>.symm
   rw[e,nR,<-iA]
   exact wrap_u64 (nU (qS _ _) hlt)
  have w3:IntKind.wrap .i64 ((j:Int)+1)=((j+1:Nat):Int):=by rw[<-bH (n:=j+1) (by omega)];rfl
  rw[decide_eq_true (show(j:Int)<((i % 64:Nat):Int) by omega),cond_true,w2,w3]
  exact hk (m-1) _ _ (by omega) ⟨j+1,rfl,by omega,rfl⟩
 ·have hj2:j=i % 64:=by omega
  rw[decide_eq_false (show ¬(j:Int)<((i % 64:Nat):Int) by omega),cond_false]
  have hb:=dC f (i / 64) (i % 64)
  rw[qs,<-hj2]at hb
  have e2:64*(i / 64)+j=i:=by omega
  rw[e2,decide_eq_true (show j<64 by omega),bF]at hb
  have e:Int.tmod ((br f (i / 64) / 2 ^ j:Nat):Int) 2=((br f (i / 64) / 2 ^ j % 2:Nat):Int):=by
   rw[show(2:Int)=((2:Nat):Int) by rfl];exact oa _ 2 |>.symm
  have e3:decide (Int.tmod ((br f (i / 64) / 2 ^ j:Nat):Int) 2=1)=f i:=by
   rw[<-hb,e,decide_eq_decide];omega
  rw[e3]
def bits(f:Nat->Bool):List Bool:=(List.range 256).map f
theorem pZ(f:Nat->Bool):(bits f).length=256:=by simp[bits]
theorem nC(f:Nat->Bool){i:Nat}(h:i<256):(bits f)[i]?=some (f i):=by
 unfold bits
 rw[bX,dR h]
 rfl
theorem uB{f g:Nat->Bool}(h:∀ i,i<256->f i=g i):bits f=bits g:=by
 unfold bits
 exact kM λi hi=>h i (cD.1 hi)
theorem wF:List.replicate ((256:Int)).toNat false=bits (λ_=>false):=by decide +kernel
theorem Ao(f:Nat->Bool){i:Nat}(h:i<256):(bits f).set i true=bits (λx=>f x||decide (x=i)):=by
 apply eA
 intro j
 rw[jB]
 by_cases hj:j<256
 ·have g1:=nC (λx=>f x||decide (x=i)) hj
  have g2:=nC f hj
  rw[g1,g2]
  by_cases e:i=j
  ·subst e
   rw[if_pos rfl,if_pos (by rw[pZ];exact h)]
   simp
  ·rw[if_neg e]
   have:¬j=i:=λh=>e h.symm
   simp[this]
 ·have e1:(bits λx=>f x||decide (x=i))[j]?=none:=bx (by rw[pZ];omega)
  have e2:(bits f)[j]?=none:=bx (by rw[pZ];omega)
  rw[e1,e2,if_neg (by omega)]
theorem Mx{f:Nat->Bool}{c:Nat}(hz:∀ x,c<=x->f x=false):br f (c / 64)+2 ^ (c % 64)=br (λx=>f x||decide (x=c)) (c / 64):=by
 have hi:c % 64<64:=eR _ (by omega)
 have hlt:br f (c / 64)<2 ^ (c % 64):=by
  apply Nat.lt_pow_two_of_testBit
  intro j hj
  rw[dC,hz _ (by omega),Bool.and_false]
 have e:=II (l:=f) (w:=c / 64) hi
 have e2:64*(c / 64)+c % 64=c:=by omega
 rw[e2]at e
 rw[<-e,Nat.or_comm,kW]
 have:=vK hlt 1
 rw[gM]at this
 exact this
theorem My(l:List Bool)(hl:l.length<=maxLen):B0 N0 (l,())=some ((ofB (λx=>(l[x]?).getD false),()),()):=by
 unfold B0
 dsimp only
 have z:([0,0,0,0]:List Int)=ofB (λx=>decide (x<0)&&(l[x]?).getD false):=by
  rw[show([0,0,0,0]:List Int)=zS by rfl]
  refine(gZ.2 ?_).symm
  unfold et
  rw[cO]
  intro x _
  simp
 refine aZ (λm x q=>∃ c:Nat,x=(([0,0,0,0],(ofB (λx=>decide (x<c)&&(l[x]?).getD false),())),((c:Int),()))/\m+c=256/\q=some ((ofB (λx=>(l[x]?).getD false),()),())) ?_ N0 256 _ _ (by unfold N0;omega) ⟨0,by rw[<-z];rfl,rfl,rfl⟩
 rintro m x q ⟨c,rfl,hm,rfl⟩ k hk
 dsimp only
 refine aV (([0,0,0,0],(ofB (λx=>decide (x<c)&&(l[x]?).getD false),())),(decide (c<256)&&decide (c<l.length),())) (λK=>?_) ?_
 ·by_cases h:c<256
  ·rw[decide_eq_true (show(c:Int)<256 by omega),cond_true,decide_eq_true h,bF]
   have:decide ((c:Int)<((l.length:Nat):Int))=decide (c<l.length):=by rw[decide_eq_decide];omega
   rw[this]
  ·rw[decide_eq_false (show ¬(c:Int)<256 by omega),cond_false,decide_eq_false h,dI]
 dsimp only
 by_cases h:c<256/\c<l.length
 ·obtain⟨hc,hcl⟩:=h
  have n0:(0:Int)<=(c:Int):=by omega
  have RC:l[c]?=some l[c]:=ah hcl
  rw[decide_eq_true hc,decide_eq_true hcl,bF,cond_true,if_pos n0,aa,RC]
  dsimp only
  have w3:IntKind.wrap .i64 ((c:Int)+1)=((c+1:Nat):Int):=by rw[<-bH (n:=c+1) (by omega)];rfl
  refine aV (([0,0,0,0],(ofB (λx=>decide (x<c+1)&&(l[x]?).getD false),())),()) (λK=>?_) ?_
  ·have NM:∀ x:Nat,(decide (x<c+1)&&(l[x]?).getD false)=((decide (x<c)&&(l[x]?).getD false)||(decide (x=c)&&l[c])):=by
    intro x
    by_cases hx:x=c
    ·subst hx
     have h1:¬x<x:=by omega
     have h2:x<x+1:=by omega
     simp[h1,h2,RC]
    ·have:(x<c+1)↔(x<c):=by omega
     simp[this,hx]
   cases hb:l[c]
   ·rw[cond_false]
    have:ofB (λx=>decide (x<c+1)&&(l[x]?).getD false)=ofB (λx=>decide (x<c)&&(l[x]?).getD false):=iV λx hx=>by rw[NM x,hb];simp
    rw[this]
   ·rw[cond_true]
    have hw:c / 64<4:=by omega
    have hl6:c % 64<64:=eR _ (by omega)
    have w1:IntKind.wrap .i64 (Int.tdiv (c:Int) 64)=((c / 64:Nat):Int):=by rw[IK];exact bH (by omega)
    have w2:IntKind.wrap .u64 (Int.tmod (c:Int) 64)=((c % 64:Nat):Int):=by rw[IL];exact wrap_u64 (by omega)
    have n1:¬((64:Int)=0):=by omega
    have n2:¬(((c % 64:Nat):Int)<0):=by omega
    have n3:(0:Int)<=((c / 64:Nat):Int):=by omega
    have g:(ofB (λx=>decide (x<c)&&(l[x]?).getD false))[((c / 64:Nat):Int).toNat]?=some ((br (λx=>decide (x<c)&&(l[x]?).getD false) (c / 64):Nat):Int):=by rw[aa];exact jq hw
    rw[if_neg n1,if_neg n1,w1,if_pos n3,g]
    simp only[if_neg n1,w2,if_neg n2,if_pos n3,g,xW hl6]
    have hab:=Mx (f:=λx=>decide (x<c)&&(l[x]?).getD false) (c:=c) (λx hx=>by
     have:¬x<c:=by omega
     simp[this])
    have hlt:=dW (λx=>(decide (x<c)&&(l[x]?).getD false)||decide (x=c)) (c / 64)
    have w4:IntKind.wrap .u64 (((br (λx=>decide (x<c)&&(l[x]?).getD false) (c / 64):Nat):Int)+((2 ^ (c % 64):Nat):Int))=((br (λx=>(decide (x<c)&&(l[x]?).getD false)||decide (x=c)) (c / 64):Nat):Int):=by
     rw[<-hab,<-Int.natCast_add]
     exact wrap_u64 (by rw[hab];exact hlt)
    rw[w4,aa]
    have dA:(ofB (λx=>decide (x<c)&&(l[x]?).getD false)).set (c / 64) ((br (λx=>(decide (x<c)&&(l[x]?).getD false)||decide (x=c)) (c / 64):Nat):Int)=ofB (λx=>(decide (x<c)&&(l[x]?).getD false)||decide (x=c)):=
     xV hw rfl (λv j hv hne hj=>by
      have:¬(64*v+j=c):=by omega
      simp[this])
    rw[dA]
    have:ofB (λx=>decide (x<c+1)&&(l[x]?).getD false)=ofB (λx=>(decide (x<c)&&(l[x]?).getD false)||decide (x=c)):=iV λx hx=>by rw[NM x,hb];simp
    rw[this]
  ·dsimp only
   rw[w3]
   exact hk (m-1) _ _ (by omega) ⟨c+1,rfl,by omega,rfl⟩
 ·have hf:(decide (c<256)&&decide (c<l.length))=false:=by
   rw[im,decide_eq_false_iff_not,decide_eq_false_iff_not]
   omega
  rw[hf,cond_false]
  have:ofB (λx=>decide (x<c)&&(l[x]?).getD false)=ofB (λx=>(l[x]?).getD false):=iV λx hx=>by
   by_cases hxc:x<c
   ·simp[hxc]
   ·have:l[x]?=none:=bx (by omega)
    simp[this]
  rw[this]
theorem rO(f:Nat->Bool):B0 N0 (bits f,())=some ((ofB f,()),()):=by
 rw[My _ (by rw[pZ];simp[maxLen])]
 have:ofB (λx=>((bits f)[x]?).getD false)=ofB f:=iV λx hx=>by rw[nC _ hx];rfl
 rw[this]
theorem Ap(f g:Nat->Bool):Im N0 (3,(ofB f,(ofB g,())))=some ((ofB (λx=>!f x),()),()):=by
 unfold Im
 dsimp only
 refine aZ (λm x q=>∃ c:Nat,x=(([0,0,0,0],()),((List.range c).map (λx=>!f x),((c:Int),())))/\m+c=256/\q=some ((ofB (λx=>!f x),()),())) ?_ N0 256 _ _ (by unfold N0;omega) ⟨0,rfl,rfl,rfl⟩
 rintro m x q ⟨c,rfl,hm,rfl⟩ k hk
 dsimp only
 rcases ap c 256 with hc|hc
 ·have w3:IntKind.wrap .i64 ((c:Int)+1)=((c+1:Nat):Int):=by rw[<-bH (n:=c+1) (by omega)];rfl
  rw[decide_eq_true (show(c:Int)<256 by omega),cond_true,ae (DE f hc)]
  dsimp only
  rw[ae (DE g hc)]
  dsimp only
  have f1:(((List.range c).map (λx=>!f x)).length+([!f c]:List Bool).length)*1<=140737488355328:=by simp;omega
  have f2:((List.range c).map (λx=>!f x)).length+([!f c]:List Bool).length<=9223372036854775807:=by simp;omega
  simp only[aL,show decide ((3:Int)=0)=false from rfl,show decide ((3:Int)=1)=false from rfl,show decide ((3:Int)=2)=false from rfl,cond_false]
  rw[if_pos f1,if_pos f2,w3]
  refine hk (m-1) _ _ (by omega) ⟨c+1,?_,by omega,rfl⟩
  rw[kR,eB]
  rfl
 ·have hc2:c=256:=by omega
  subst hc2
  rw[decide_eq_false (by omega),cond_false]
  exact ae (rO _) _
end
noncomputable section
theorem p5{A R:Type}{P:Option R->Prop}{J:A->Option R}{body:(A->Option R)->Option R}(h:∀ K,(∀ x,K x=J x)->P (body K)):P (aw J body):=h J λ_=>rfl
def OkQ(o:Option (Rx×Nat))(z:Option ((List Pc×(Int×Unit))×Unit)):Prop:=
 match o with
 |some (t,j)=>z=some ((t.post,((j:Int),())),())
 |none=>∃ k:Int,z=some (([],(k,())),())
theorem uC(s:List Int){i:Nat}(hi:i<=s.length):((0:Int)<=(i:Int)/\(i:Int)<=((s.length:Nat):Int)/\((s.length:Nat):Int)<=((s.length:Nat):Int))/\cz s (i:Int) ((s.length:Nat):Int)=s.drop i:=by
 refine⟨⟨by omega,by omega,by omega⟩,?_⟩
 unfold cz
 simp only[aa]
 exact bZ (by simp)
theorem uD{s:List Int}(hs:s.length<=maxLen)(i:Nat):(s.drop i).length<=maxLen:=by rw[bA];omega
theorem Mz{s:List Int}(hb:Bytes s)(hs0:s.length<=1600){i:Nat}(hi:i<=s.length):OkQ (brS s i) (L8 N0 (s,((i:Int),()))):=by
 have hs:s.length<=maxLen:=by unfold maxLen;omega
 rw[xY]
 unfold L8
 dsimp only
 rw[if_pos (show(0:Int)<=256/\(256:Int)<=256 by omega),if_pos (show((256:Int)).toNat*1<=140737488355328 by decide),wF]
 refine ek (P:=OkQ _) ((bits (λ_=>false),()),(fj s i 94,())) (λK=>?_) ?_
 ·unfold fj
  rcases ap i s.length with h|h
  ·have n0:(0:Int)<=(i:Int):=by omega
   rw[decide_eq_true (show(i:Int)<((s.length:Nat):Int) by omega),cond_true,if_pos n0,aa,hC h,decide_eq_true h,bF]
  ·rw[decide_eq_false (show ¬(i:Int)<((s.length:Nat):Int) by omega),cond_false,decide_eq_false (show ¬i<s.length by omega),dI]
 dsimp only
 generalize hnt:fj s i 94=nt
 have hlt:nt=true->i<s.length:=λh=>by
  rw[<-hnt]at h
  unfold fj at h
  simp at h
  exact h.1
 have hi1:(if nt=true then i+1 else i)<=s.length:=by
  split
  ·rename_i h;exact hlt h
  ·exact hi
 refine ek (P:=OkQ _) ((bits (λ_=>false),()),(((if nt=true then i+1 else i:Nat):Int),())) (λK=>?_) ?_
 ·cases nt
  ·rfl
  ·rw[cond_true,if_pos rfl,bo (hlt rfl) hs]
 dsimp only
 generalize (if nt=true then i+1 else i)=i1 at hi1 |-
 generalize cu:brL s s.length.succ i1 (λ_=>false)=res
 refine eu (λm x=>∃ (i:Nat) (f:Nat->Bool) (cf:Nat),x=((bits f,()),((i:Int),()))/\i<=s.length/\s.length-i<cf/\m=s.length-i/\brL s cf i f=res) (OkQ (nB s nt res)) ?_ N0 (s.length-i1) _ (by have:=jY hs;omega) ⟨i1,_,s.length.succ,rfl,hi1,by omega,rfl,cu⟩
 rintro m x ⟨i,f,cf,rfl,hi,hf,hm,hr⟩ k hk
 obtain⟨cf,rfl⟩:∃ q,cf=q+1:=⟨cf-1,by omega⟩
 simp only[brL]at hr
 dsimp only
 have n0:(0:Int)<=(i:Int):=by omega
 refine ek (P:=OkQ _) ((bits f,()),(decide (¬(s.length<=i\/ch s i=93)),())) (λK=>?_) ?_
 ·rcases ap i s.length with h|h
  ·have e:decide (¬(s.length<=i\/ch s i=93))=!decide (ch s i=93):=by
    have:¬s.length<=i:=by omega
    simp[this]
   rw[decide_eq_true (show(i:Int)<((s.length:Nat):Int) by omega),cond_true,if_pos n0,aa,hC h,e]
  ·have e:decide (¬(s.length<=i\/ch s i=93))=false:=by simp[h]
   rw[decide_eq_false (show ¬(i:Int)<((s.length:Nat):Int) by omega),cond_false,e]
 dsimp only
 by_cases mf:s.length<=i\/ch s i=93
 ·-- the end
  rw[if_pos mf]at hr
  rw[decide_eq_false (λh=>h mf),cond_false,ae (rO f)]
  dsimp only
  subst hr
  unfold nB
  dsimp only
  generalize hg:(if nt=true then λx=>!f x else f)=g
  refine ek (P:=OkQ _) ((ofB g,()),()) (λK=>?_) ?_
  ·cases nt
   ·rw[cond_false]
    have:f=g:=hg
    rw[this]
   ·rw[cond_true,ae (Ap f f)]
    have:(λx=>!f x)=g:=hg
    rw[this]
  dsimp only
  refine ek (P:=OkQ _) ((ofB g,()),(decide (s.length<=i\/et g=true),())) (λK=>?_) ?_
  ·rcases ap i s.length with h|h
   ·have e:decide (s.length<=i\/et g=true)=decide (ofB g=[0,0,0,0]):=by
     have:¬s.length<=i:=by omega
     rw[decide_eq_decide,show([0,0,0,0]:List Int)=zS by rfl,gZ]
     simp[this]
    rw[decide_eq_false (show ¬((s.length:Nat):Int)<=(i:Int) by omega),cond_false,e]
   ·rw[decide_eq_true (show((s.length:Nat):Int)<=(i:Int) by omega),cond_true,decide_eq_true (.inl h)]
  dsimp only
  by_cases hem:s.length<=i\/et g=true
  ·rw[if_pos hem,decide_eq_true hem,cond_true]
   exact⟨_,rfl⟩
  ·rw[if_neg hem,decide_eq_false hem,cond_false,bo (show i<s.length by omega) hs]
   rfl
 ·rw[if_neg mf]at hr
  have hlt:i<s.length:=by omega
  obtain⟨hc,rJ⟩:=uC s hi
  rw[decide_eq_true mf,cond_true,if_pos hc,rJ,ae (x5 (hb.drop i) (uD hs i))]
  dsimp only
  cases hrd:rdS (s.drop i)with
  |none=>
   have:res=none:=by
    rw[hrd]at hr
    split at hr
    ·exact hr.symm
    ·exact hr.symm
   subst this
   exact⟨_,rfl⟩
  |some p=>
   obtain⟨a,n⟩:=p
   rw[hrd]at hr
   obtain⟨ha,hn1,hn2⟩:=kG (hb.drop i) hrd
   rw[bA]at hn2
   dsimp only[rdR]
   dsimp only at hr
   refine ek (P:=OkQ _) ((bits f,()),(decide (ch s i∈([94,45,47,34]:List Int)),())) (λK=>?_) ?_
   ·rw[aB,cond_false,if_pos n0,aa,hC hlt]
    dsimp only
    rw[ae (pY _ (by simp[maxLen]) _)]
   dsimp only
   by_cases hin:ch s i∈([94,45,47,34]:List Int)
   ·rw[if_pos hin]at hr
    rw[decide_eq_true hin,cond_true]
    subst hr
    exact⟨_,rfl⟩
   rw[if_neg hin]at hr
   rw[decide_eq_false hin,cond_false]
   have w1:IntKind.wrap .i64 ((i:Int)+(n:Int))=((i+n:Nat):Int):=by
    rw[<-bH (n:=i+n) (by omega)];rfl
   have w2:IntKind.wrap .i64 (((i+n:Nat):Int)+1)=((i+n+1:Nat):Int):=by
    rw[<-bH (n:=i+n+1) (by omega)];rfl
   simp only[w1]
   refine ek (P:=OkQ _) ((bits f,()),(fj s (i+n) 45,())) (λK=>?_) ?_
   ·unfold fj
    rcases ap (i+n) s.length with h|h
    ·have n0:(0:Int)<=((i+n:Nat):Int):=by omega
     rw[decide_eq_true (show((i+n:Nat):Int)<((s.length:Nat):Int) by omega),cond_true,if_pos n0,aa,hC h,decide_eq_true h,bF]
    ·rw[decide_eq_false (show ¬((i+n:Nat):Int)<((s.length:Nat):Int) by omega),cond_false,decide_eq_false (show ¬i+n<s.length by omega),dI]
   dsimp only
   simp only[w2]
   refine p5 (P:=OkQ _) λK hK=>?_
   -- KL goes on with a range
   have go:∀ (j:Nat) (b:Int),j<=s.length->i<j->(0<=b/\b<=255)->brL s cf j (λx=>f x||uy a b x)=res->
    OkQ (nB s nt res) (K ((bits f,()),((j:Int),(b,())))):=by
    intro j b hj hij hbb cu
    rw[hK]
    dsimp only
    have wa:IntKind.wrap .i64 a=a:=bC (by omega) (by omega)
    have wb:IntKind.wrap .i64 b=b:=bC (by omega) (by omega)
    rw[wa,wb]
    have e0:bits f=bits (λx=>f x||(decide (a<=(x:Int))&&decide ((x:Int)<((a.toNat:Nat):Int)))):=uB λx hx=>by
     rw[dh ha.1]
     by_cases h:a<=(x:Int)
     ·have:¬(x:Int)<a:=by omega
      simp[this]
     ·simp[h]
    refine eu (λm x=>∃ c:Nat,x=((bits (λx=>f x||(decide (a<=(x:Int))&&decide ((x:Int)<(c:Int)))),()),((c:Int),()))/\m+c=256/\a<=(c:Int)/\(a<=b->(c:Int)<=b+1)/\(b<a->(c:Int)=a)) (OkQ (nB s nt res)) ?_ N0 (256-a.toNat) _ (by unfold N0;omega) ⟨a.toNat,by rw[<-e0,dh ha.1],by omega,by omega,by omega,by omega⟩
    rintro m x ⟨c,rfl,hm,h1,h2,h3⟩ k2 hk2
    dsimp only
    by_cases hcb:(c:Int)<=b
    ·have hc:c<256:=by omega
     have n1:(0:Int)<=(c:Int):=by omega
     have w3:IntKind.wrap .i64 ((c:Int)+1)=((c+1:Nat):Int):=by rw[<-bH (n:=c+1) (by omega)];rfl
     rw[decide_eq_true hcb,cond_true,if_pos n1,aa,nC _ hc]
     dsimp only
     rw[if_pos n1]
     rw[Ao _ hc,w3]
     refine hk2 (m-1) _ (by omega) ⟨c+1,?_,by omega,by omega,by omega,by omega⟩
     have:bits (λx=>(f x||(decide (a<=(x:Int))&&decide ((x:Int)<(c:Int))))||decide (x=c))=bits (λx=>f x||(decide (a<=(x:Int))&&decide ((x:Int)<((c+1:Nat):Int)))):=uB λx hx=>by
      have e3:decide ((x:Int)<((c+1:Nat):Int))=(decide ((x:Int)<(c:Int))||decide (x=c)):=by rw[<-Bool.decide_or,decide_eq_decide];omega
      rw[e3]
      by_cases hax:a<=(x:Int)
      ·simp[hax,Bool.or_assoc]
      ·have:¬x=c:=by omega
       simp[hax,this]
     rw[this]
    ·rw[decide_eq_false hcb,cond_false]
     refine hk (s.length-j) _ (by omega) ⟨j,_,cf,?_,hj,by omega,rfl,cu⟩
     have:bits (λx=>f x||(decide (a<=(x:Int))&&decide ((x:Int)<(c:Int))))=bits (λx=>f x||uy a b x):=uB λx hx=>by
      unfold uy
      rcases Int.lt_or_le b a with hl|hl
      ·have e:=h3 hl
       by_cases hax:a<=(x:Int)
       ·have q1:¬((x:Int)<=b):=by omega
        have q2:¬((x:Int)<(c:Int)):=by omega
        simp[q1,q2]
       ·simp[hax]
      ·have e:=h2 hl
       have:((x:Int)<(c:Int))↔((x:Int)<=b):=by omega
       simp[this]
     rw[this]
   clear hK
   by_cases hd:i+n<s.length/\ch s (i+n)=45
   ·rw[if_pos hd]at hr
    have he:fj s (i+n) 45=true:=by unfold fj;simp[hd.1,hd.2]
    rw[he,cond_true]
    refine ek (P:=OkQ _) ((bits f,()),(decide (s.length<=i+n+1\/ch s (i+n+1)∈([93,94,45,47,34]:List Int)),())) (λK=>?_) ?_
    ·rcases ap (i+n+1) s.length with h|h
     ·have n0:(0:Int)<=((i+n+1:Nat):Int):=by omega
      rw[decide_eq_false (show ¬((s.length:Nat):Int)<=((i+n+1:Nat):Int) by omega),cond_false,if_pos n0,aa,hC h]
      dsimp only
      rw[ae (pY _ (by simp[maxLen]) _)]
      have e:decide (s.length<=i+n+1\/ch s (i+n+1)∈([93,94,45,47,34]:List Int))=decide (ch s (i+n+1)∈([93,94,45,47,34]:List Int)):=by
       have:¬s.length<=i+n+1:=by omega
       rw[decide_eq_decide];exact⟨λh=>h.resolve_left this,.inr⟩
      rw[e]
     ·rw[decide_eq_true (show((s.length:Nat):Int)<=((i+n+1:Nat):Int) by omega),cond_true,decide_eq_true (.inl h)]
    dsimp only
    by_cases h4:s.length<=i+n+1\/ch s (i+n+1)∈([93,94,45,47,34]:List Int)
    ·rw[if_pos h4]at hr
     rw[decide_eq_true h4,cond_true]
     subst hr
     exact⟨_,rfl⟩
    rw[if_neg h4]at hr
    obtain⟨hc2,An⟩:=uC s (show i+n+1<=s.length by omega)
    rw[decide_eq_false h4,cond_false,if_pos hc2,An,ae (x5 (hb.drop _) (uD hs _))]
    dsimp only
    cases Ak:rdS (s.drop (i+n+1))with
    |none=>
     rw[Ak]at hr
     dsimp only at hr
     subst hr
     exact⟨_,rfl⟩
    |some p2=>
     obtain⟨b,n2⟩:=p2
     rw[Ak]at hr
     dsimp only at hr
     dsimp only[rdR]
     obtain⟨hbb,hn3,hn4⟩:=kG (hb.drop _) Ak
     rw[bA]at hn4
     have w3:IntKind.wrap .i64 (((i+n+1:Nat):Int)+(n2:Int))=((i+n+1+n2:Nat):Int):=by
      rw[<-bH (n:=i+n+1+n2) (by omega)];rfl
     simp only[w3]
     refine ek (P:=OkQ _) ((bits f,()),(decide (b<a),())) (λK=>?_) ?_
     ·rw[aB,cond_false]
      rfl
     dsimp only
     by_cases hba:b<a
     ·rw[if_pos hba]at hr
      rw[decide_eq_true hba,cond_true]
      subst hr
      exact⟨_,rfl⟩
     ·rw[if_neg hba]at hr
      rw[decide_eq_false hba,cond_false]
      exact go (i+n+1+n2) b (by omega) (by omega) hbb hr
   ·rw[if_neg hd]at hr
    have he:fj s (i+n) 45=false:=by
     unfold fj
     rw[im,decide_eq_false_iff_not,decide_eq_false_iff_not]
     by_cases h:i+n<s.length
     ·exact .inr λh2=>hd ⟨h,h2⟩
     ·exact .inl h
    rw[he,cond_false]
    exact go (i+n) a (by omega) (by omega) ha hr
end
noncomputable section
abbrev RfF:=(List Int×(Int×(Int×Unit)))->Option ((List Pc×(Int×Unit))×Unit)
theorem iW(t:Rx):List.isEmpty t.post=false:=by
 have h1:=t.aU
 have h2:=t.bL
 cases hp:t.post with
 |nil=>rw[hp]at h1;simp at h1;omega
 |cons a b=>rfl
theorem MA{i n:Nat}(h:i+n<9223372036854775808):IntKind.wrap .i64 ((i:Int)+(n:Int))=((i+n:Nat):Int):=by rw[<-bH h];rfl
theorem cY{i:Nat}(h:i+1<9223372036854775808):IntKind.wrap .i64 ((i:Int)+1)=((i+1:Nat):Int):=by rw[<-bH h];rfl
theorem MB{s:List Int}(hb:Bytes s)(hs:s.length<=1600){q2 q3 q4 q5:RfF}{inner:Nat->Nat->Option (Rx×Nat)}{i d:Nat}(hd:d<=i)
 (hin:i<s.length->OkQ (inner (i+1) (d+1)) (q2 (s,(((i+1:Nat):Int),(((d+1:Nat):Int),()))))) (cu:kg s (i+1) (inner (i+1) (d+1))):
 OkQ (mK inner s i d) (Ab N0 q2 q3 q4 q5 (s,((i:Int),((d:Int),())))):=by
 have hsm:s.length<=maxLen:=by unfold maxLen;omega
 unfold Ab mK
 dsimp only
 have n0:(0:Int)<=(i:Int):=by omega
 refine ek (P:=OkQ _) ((),(decide (s.length<=i\/ch s i∈([124,41,42,43,63,93,47,34]:List Int)),())) (λK=>?_) ?_
 ·rcases ap i s.length with h|h
  ·rw[decide_eq_false (show ¬((s.length:Nat):Int)<=(i:Int) by omega),cond_false,if_pos n0,aa,hC h]
   dsimp only
   rw[ae (pY _ (by simp[maxLen]) _)]
   have e:decide (s.length<=i\/ch s i∈([124,41,42,43,63,93,47,34]:List Int))=decide (ch s i∈([124,41,42,43,63,93,47,34]:List Int)):=by
    have:¬s.length<=i:=by omega
    rw[decide_eq_decide];exact⟨λh=>h.resolve_left this,.inr⟩
   rw[e]
  ·rw[decide_eq_true (show((s.length:Nat):Int)<=(i:Int) by omega),cond_true,decide_eq_true (.inl h)]
 dsimp only
 by_cases mf:s.length<=i\/ch s i∈([124,41,42,43,63,93,47,34]:List Int)
 ·rw[if_pos mf,decide_eq_true mf,cond_true]
  exact⟨_,rfl⟩
 rw[if_neg mf,decide_eq_false mf,cond_false]
 have hlt:i<s.length:=by omega
 have w1:IntKind.wrap .i64 ((i:Int)+1)=((i+1:Nat):Int):=cY (by omega)
 simp only[if_pos n0,aa,hC hlt,w1]
 have hz:([0,0,0,0]:List Int)=ofB (λ_=>false):=by
  rw[show([0,0,0,0]:List Int)=zS by rfl]
  exact(gZ.2 (by unfold et;rw[cO];intro x _;rfl)).symm
 by_cases h46:ch s i=46
 ·rw[decide_eq_true h46,cond_true,if_pos h46,hz,ae (Ap _ _)]
  rfl
 rw[decide_eq_false h46,cond_false,if_neg h46]
 by_cases h126:ch s i=126
 ·rw[decide_eq_true h126,cond_true,if_pos h126]
  rfl
 rw[decide_eq_false h126,cond_false,if_neg h126]
 by_cases h91:ch s i=91
 ·rw[decide_eq_true h91,cond_true,if_pos h91]
  have hq:=Mz hb hs (show i+1<=s.length by omega)
  unfold OkQ at hq
  cases ho:brS s (i+1)with
  |none=>
   rw[ho]at hq
   obtain⟨k,hq⟩:=hq
   rw[ae hq]
   exact⟨_,rfl⟩
  |some p=>
   obtain⟨t,j⟩:=p
   rw[ho]at hq
   dsimp only at hq
   rw[ae hq]
   rfl
 rw[decide_eq_false h91,cond_false,if_neg h91]
 by_cases h40:ch s i=40
 ·rw[decide_eq_true h40,cond_true,if_pos h40]
  by_cases h99:99<=d
  ·rw[if_pos h99,decide_eq_true (show(99:Int)<=(d:Int) by omega),cond_true]
   exact⟨_,rfl⟩
  rw[if_neg h99,decide_eq_false (show ¬(99:Int)<=(d:Int) by omega),cond_false]
  have wd:IntKind.wrap .i64 ((d:Int)+1)=((d+1:Nat):Int):=cY (by omega)
  rw[wd]
  have hq:=hin hlt
  unfold OkQ at hq
  cases ho:inner (i+1) (d+1)with
  |none=>
   rw[ho]at hq
   obtain⟨k,hq⟩:=hq
   rw[ae hq]
   exact⟨_,rfl⟩
  |some p=>
   obtain⟨t,j⟩:=p
   rw[ho]at hq
   dsimp only at hq
   obtain⟨r1,r2,r3,r4⟩:=cu t j ho
   rw[ae hq]
   dsimp only
   refine ek (P:=OkQ _) ((),(decide (¬(j<s.length/\ch s j=41)),())) (λK=>?_) ?_
   ·rw[iW t,cond_false]
    rcases ap j s.length with h|h
    ·have n1:(0:Int)<=(j:Int):=by omega
     have e:decide (¬(j<s.length/\ch s j=41))=!decide (ch s j=41):=by simp[h]
     rw[decide_eq_false (show ¬((s.length:Nat):Int)<=(j:Int) by omega),cond_false,if_pos n1,aa,hC h,e]
    ·have e:decide (¬(j<s.length/\ch s j=41))=true:=by simp;omega
     rw[decide_eq_true (show((s.length:Nat):Int)<=(j:Int) by omega),cond_true,e]
   dsimp only
   by_cases hj:j<s.length/\ch s j=41
   ·rw[if_pos hj,decide_eq_false (λh=>h hj),cond_false,cY (by omega)]
    rfl
   ·rw[if_neg hj,decide_eq_true hj,cond_true]
    exact⟨_,rfl⟩
 rw[decide_eq_false h40,cond_false,if_neg h40]
 obtain⟨hc,rJ⟩:=uC s (show i<=s.length by omega)
 rw[if_pos hc,rJ,ae (x5 (hb.drop i) (uD hsm i))]
 dsimp only
 cases hrd:rdS (s.drop i)with
 |none=>exact⟨_,rfl⟩
 |some p=>
  obtain⟨c,n⟩:=p
  obtain⟨hcb,hn1,hn2⟩:=kG (hb.drop i) hrd
  rw[bA]at hn2
  dsimp only[rdR]
  obtain⟨c,rfl⟩:∃ q:Nat,c=(q:Int):=⟨c.toNat,by omega⟩
  have n1:(0:Int)<=(c:Int):=by omega
  have NN:c<256:=by omega
  rw[aB,cond_false,if_pos (show(0:Int)<=256/\(256:Int)<=256 by omega),if_pos (show((256:Int)).toNat*1<=140737488355328 by decide)]
  simp only[if_pos n1,wF,aa,nC _ NN,Ao _ NN]
  rw[ae (rO _)]
  simp only[MA (show i+n<9223372036854775808 by omega)]
  have e:ofB (λx=>false||decide (x=c))=ofB (rG (c:Int)):=iV λx hx=>by
   unfold rG
   rw[cP,decide_eq_decide];omega
  rw[e]
  rfl
theorem Cb{s:List Int}(hb:Bytes s)(hs:s.length<=1600){q2 q3 q4 q5:RfF}{inner:Nat->Nat->Option (Rx×Nat)}{i d:Nat}
 (ew:OkQ (mK inner s i d) (q5 (s,((i:Int),((d:Int),()))))) (cu:kg s i (mK inner s i d)):
 OkQ (kF inner s i d) (Aa N0 q2 q3 q4 q5 (s,((i:Int),((d:Int),())))):=by
 have hsm:s.length<=maxLen:=by unfold maxLen;omega
 unfold Aa
 dsimp only
 unfold kF
 unfold OkQ at ew
 cases ho:mK inner s i d with
 |none=>
  rw[ho]at ew
  obtain⟨k0,hq⟩:=ew
  rw[ae hq]
  refine eu (λm x=>x=((),(k0,([],())))) (OkQ none) ?_ N0 0 _ (by unfold N0;omega) rfl
  rintro m x rfl k hk
  exact⟨_,rfl⟩
 |some p=>
  obtain⟨t0,j0⟩:=p
  rw[ho]at ew
  dsimp only at ew
  have hr0:=cu t0 j0 ho
  rw[ae ew]
  dsimp only
  generalize hrs:rH s s.length.succ j0 t0=res
  refine eu (λm x=>∃ (j:Nat) (t:Rx) (cf:Nat),x=((),((j:Int),(t.post,())))/\Res s i t j/\s.length-j<cf/\m=s.length-j/\rH s cf j t=res) (OkQ res) ?_ N0 (s.length-j0) _ (by unfold N0;omega) ⟨j0,t0,_,rfl,hr0,by omega,rfl,hrs⟩
  rintro m x ⟨j,t,cf,rfl,hr,hf,hm,hl⟩ k hk
  obtain⟨cf,rfl⟩:∃ q,cf=q+1:=⟨cf-1,by omega⟩
  simp only[rH]at hl
  dsimp only
  have n1:(0:Int)<=(j:Int):=by omega
  refine ek (P:=OkQ _) ((),(decide (j<s.length/\ch s j∈([42,43,63]:List Int)),())) (λK=>?_) ?_
  ·rw[iW t,aJ,cond_true]
   rcases ap j s.length with h|h
   ·rw[decide_eq_true (show(j:Int)<((s.length:Nat):Int) by omega),cond_true,if_pos n1,aa,hC h]
    dsimp only
    rw[ae (pY _ (by simp[maxLen]) _)]
    have e:decide (j<s.length/\ch s j∈([42,43,63]:List Int))=decide (ch s j∈([42,43,63]:List Int)):=by
     rw[decide_eq_decide];exact⟨λh=>h.2,λh2=>⟨h,h2⟩⟩
    rw[e]
   ·have e:decide (j<s.length/\ch s j∈([42,43,63]:List Int))=false:=decide_eq_false (λh2=>by omega)
    rw[decide_eq_false (show ¬(j:Int)<((s.length:Nat):Int) by omega),cond_false,e]
  dsimp only
  by_cases hc:j<s.length/\ch s j∈([42,43,63]:List Int)
  ·rw[if_pos hc]at hl
   obtain⟨g1,g2,g3,g4⟩:=hr
   have tl:=t.aU
   rw[decide_eq_true hc,cond_true,if_pos n1,aa,hC hc.1]
   dsimp only
   refine ek (P:=OkQ _) ((),((if ch s j=43 then 5 else 4),())) (λK=>?_) ?_
   ·by_cases h:ch s j=43
    ·rw[decide_eq_true h,cond_true,if_pos h]
    ·rw[decide_eq_false h,cond_false,if_neg h]
   dsimp only
   rw[if_pos n1]
   refine ek (P:=OkQ _) ((),(iI (ch s j),())) (λK=>?_) ?_
   ·unfold iI
    by_cases h:ch s j=63
    ·rw[decide_eq_true h,cond_true,h];rfl
    ·rw[decide_eq_false h,cond_false]
     have h3:ch s j=42\/ch s j=43:=by
      have:=hc.2
      simp[h]at this
      exact this
     rcases h3 with h3|h3 <;> rw[h3] <;> rfl
   dsimp only
   have c1:(([]:List Pc).length+t.post.length)*40<=140737488355328:=by simp;omega
   have c2:([]:List Pc).length+t.post.length<=9223372036854775807:=by simp;omega
   have c3:((([]:List Pc)++t.post).length+([(iI (ch s j),[0,0,0,0])]:List Pc).length)*40<=140737488355328:=by simp;omega
   have c4:(([]:List Pc)++t.post).length+([(iI (ch s j),[0,0,0,0])]:List Pc).length<=9223372036854775807:=by simp;omega
   have e:([]:List Pc)++t.post++[(iI (ch s j),[0,0,0,0])]=(Rx.rep (iI (ch s j)) t).post:=rfl
   rw[if_pos c1,if_pos c2,if_pos c3,if_pos c4,e,iW,cond_false,cY (by omega)]
   exact hk (s.length-(j+1)) _ (by omega) ⟨j+1,_,cf,rfl,⟨by omega,by omega,by simp only[Rx.len];omega,rK _,g4⟩,by omega,rfl,hl⟩
  ·rw[if_neg hc]at hl
   rw[decide_eq_false hc,cond_false]
   subst hl
   rfl
end
noncomputable section
theorem MC{s:List Int}(hb:Bytes s)(hs:s.length<=1600){q2 q3 q4 q5:RfF}{inner:Nat->Nat->Option (Rx×Nat)}{i d:Nat}(hi:i<=s.length)
 (bD:∀ j,i<=j->j<=s.length->OkQ (kF inner s j d) (q4 (s,((j:Int),((d:Int),()))))) (cu:∀ j,i<=j->kg s j (kF inner s j d)):
 OkQ (lF inner s i d) (z8 N0 q2 q3 q4 q5 (s,((i:Int),((d:Int),())))):=by
 have hsm:s.length<=maxLen:=by unfold maxLen;omega
 unfold z8
 dsimp only
 unfold lF
 have ew:=bD i (au _) hi
 unfold OkQ at ew
 cases ho:kF inner s i d with
 |none=>
  rw[ho]at ew
  obtain⟨k0,hq⟩:=ew
  rw[ae hq]
  refine eu (λm x=>x=((),(k0,([],())))) (OkQ none) ?_ N0 0 _ (by unfold N0;omega) rfl
  rintro m x rfl k hk
  exact⟨_,rfl⟩
 |some p=>
  obtain⟨t0,j0⟩:=p
  rw[ho]at ew
  dsimp only at ew
  have hr0:=cu i (au _) t0 j0 ho
  rw[ae ew]
  dsimp only
  generalize hrs:sQ inner s d s.length.succ j0 t0=res
  refine eu (λm x=>∃ (j:Nat) (t:Rx) (cf:Nat),x=((),((j:Int),(t.post,())))/\Res s i t j/\s.length-j<cf/\m=s.length-j/\sQ inner s d cf j t=res) (OkQ res) ?_ N0 (s.length-j0) _ (by unfold N0;omega) ⟨j0,t0,_,rfl,hr0,by omega,rfl,hrs⟩
  rintro m x ⟨j,t,cf,rfl,hr,hf,hm,hl⟩ k hk
  obtain⟨cf,rfl⟩:∃ q,cf=q+1:=⟨cf-1,by omega⟩
  simp only[sQ]at hl
  dsimp only
  have n1:(0:Int)<=(j:Int):=by omega
  refine ek (P:=OkQ _) ((),(decide (j<s.length/\ch s j∉([124,41]:List Int)),())) (λK=>?_) ?_
  ·rw[iW t,aJ,cond_true]
   rcases ap j s.length with h|h
   ·rw[decide_eq_true (show(j:Int)<((s.length:Nat):Int) by omega),cond_true,if_pos n1,aa,hC h]
    dsimp only
    rw[ae (pY _ (by simp[maxLen]) _)]
    have e:decide (j<s.length/\ch s j∉([124,41]:List Int))=!decide (ch s j∈([124,41]:List Int)):=by
     rw[<-decide_not,decide_eq_decide];exact⟨λh=>h.2,λh2=>⟨h,h2⟩⟩
    rw[e]
   ·have e:decide (j<s.length/\ch s j∉([124,41]:List Int))=false:=decide_eq_false (λh2=>by omega)
    rw[decide_eq_false (show ¬(j:Int)<((s.length:Nat):Int) by omega),cond_false,e]
  dsimp only
  by_cases hc:j<s.length/\ch s j∉([124,41]:List Int)
  ·rw[if_pos hc]at hl
   obtain⟨g1,g2,g3,g4⟩:=hr
   have tl:=t.aU
   rw[decide_eq_true hc,cond_true]
   have hq:=bD j (by omega) (by omega)
   unfold OkQ at hq
   cases h2:kF inner s j d with
   |none=>
    rw[h2]at hq hl
    obtain⟨k0,hq⟩:=hq
    rw[ae hq]
    subst hl
    exact⟨_,rfl⟩
   |some p=>
    obtain⟨t2,j2⟩:=p
    rw[h2]at hq hl
    dsimp only at hq hl
    obtain⟨f1,f2,f3,f4⟩:=cu j (by omega) t2 j2 h2
    have tl2:=t2.aU
    rw[ae hq]
    dsimp only
    have c1:(([]:List Pc).length+t.post.length)*40<=140737488355328:=by simp;omega
    have c2:([]:List Pc).length+t.post.length<=9223372036854775807:=by simp;omega
    have c3:((([]:List Pc)++t.post).length+t2.post.length)*40<=140737488355328:=by simp;omega
    have c4:(([]:List Pc)++t.post).length+t2.post.length<=9223372036854775807:=by simp;omega
    have c5:((([]:List Pc)++t.post++t2.post).length+([(2,[0,0,0,0])]:List Pc).length)*40<=140737488355328:=by simp;omega
    have c6:(([]:List Pc)++t.post++t2.post).length+([(2,[0,0,0,0])]:List Pc).length<=9223372036854775807:=by simp;omega
    have e:([]:List Pc)++t.post++t2.post++[(2,[0,0,0,0])]=(Rx.cat t t2).post:=rfl
    rw[iW t2,cond_false,if_pos c1,if_pos c2,if_pos c3,if_pos c4,if_pos c5,if_pos c6,e,iW,cond_false]
    exact hk (s.length-j2) _ (by omega) ⟨j2,.cat t t2,cf,rfl,⟨by omega,by omega,by simp only[Rx.len];omega,g4,f4⟩,by omega,rfl,hl⟩
  ·rw[if_neg hc]at hl
   rw[decide_eq_false hc,cond_false]
   subst hl
   rfl
theorem Cc{s:List Int}(hb:Bytes s)(hs:s.length<=1600){q2 q3 q4 q5:RfF}{inner:Nat->Nat->Option (Rx×Nat)}{i d:Nat}(hi:i<=s.length)
 (x4:∀ j,i<=j->j<=s.length->OkQ (lF inner s j d) (q3 (s,((j:Int),((d:Int),()))))) (cu:∀ j,i<=j->kg s j (lF inner s j d)):
 OkQ (B7 inner s i d) (z7 N0 q2 q3 q4 q5 (s,((i:Int),((d:Int),())))):=by
 have hsm:s.length<=maxLen:=by unfold maxLen;omega
 unfold z7
 dsimp only
 unfold B7
 have ew:=x4 i (au _) hi
 unfold OkQ at ew
 cases ho:lF inner s i d with
 |none=>
  rw[ho]at ew
  obtain⟨k0,hq⟩:=ew
  rw[ae hq]
  refine eu (λm x=>x=((),(k0,([],())))) (OkQ none) ?_ N0 0 _ (by unfold N0;omega) rfl
  rintro m x rfl k hk
  exact⟨_,rfl⟩
 |some p=>
  obtain⟨t0,j0⟩:=p
  rw[ho]at ew
  dsimp only at ew
  have hr0:=cu i (au _) t0 j0 ho
  rw[ae ew]
  dsimp only
  generalize hrs:sR inner s d s.length.succ j0 t0=res
  refine eu (λm x=>∃ (j:Nat) (t:Rx) (cf:Nat),x=((),((j:Int),(t.post,())))/\Res s i t j/\s.length-j<cf/\m=s.length-j/\sR inner s d cf j t=res) (OkQ res) ?_ N0 (s.length-j0) _ (by unfold N0;omega) ⟨j0,t0,_,rfl,hr0,by omega,rfl,hrs⟩
  rintro m x ⟨j,t,cf,rfl,hr,hf,hm,hl⟩ k hk
  obtain⟨cf,rfl⟩:∃ q,cf=q+1:=⟨cf-1,by omega⟩
  simp only[sR]at hl
  dsimp only
  have n1:(0:Int)<=(j:Int):=by omega
  refine ek (P:=OkQ _) ((),(decide (j<s.length/\ch s j=124),())) (λK=>?_) ?_
  ·rw[iW t,aJ,cond_true]
   rcases ap j s.length with h|h
   ·rw[decide_eq_true (show(j:Int)<((s.length:Nat):Int) by omega),cond_true,if_pos n1,aa,hC h]
    have e:decide (j<s.length/\ch s j=124)=decide (ch s j=124):=by
     rw[decide_eq_decide];exact⟨λh=>h.2,λh2=>⟨h,h2⟩⟩
    rw[e]
   ·have e:decide (j<s.length/\ch s j=124)=false:=decide_eq_false (λh2=>by omega)
    rw[decide_eq_false (show ¬(j:Int)<((s.length:Nat):Int) by omega),cond_false,e]
  dsimp only
  by_cases hc:j<s.length/\ch s j=124
  ·rw[if_pos hc]at hl
   obtain⟨g1,g2,g3,g4⟩:=hr
   have tl:=t.aU
   rw[decide_eq_true hc,cond_true,cY (by omega)]
   have hq:=x4 (j+1) (by omega) (by omega)
   unfold OkQ at hq
   cases h2:lF inner s (j+1) d with
   |none=>
    rw[h2]at hq hl
    obtain⟨k0,hq⟩:=hq
    rw[ae hq]
    subst hl
    exact⟨_,rfl⟩
   |some p=>
    obtain⟨t2,j2⟩:=p
    rw[h2]at hq hl
    dsimp only at hq hl
    obtain⟨f1,f2,f3,f4⟩:=cu (j+1) (by omega) t2 j2 h2
    have tl2:=t2.aU
    rw[ae hq]
    dsimp only
    have c1:(([]:List Pc).length+t.post.length)*40<=140737488355328:=by simp;omega
    have c2:([]:List Pc).length+t.post.length<=9223372036854775807:=by simp;omega
    have c3:((([]:List Pc)++t.post).length+t2.post.length)*40<=140737488355328:=by simp;omega
    have c4:(([]:List Pc)++t.post).length+t2.post.length<=9223372036854775807:=by simp;omega
    have c5:((([]:List Pc)++t.post++t2.post).length+([(3,[0,0,0,0])]:List Pc).length)*40<=140737488355328:=by simp;omega
    have c6:(([]:List Pc)++t.post++t2.post).length+([(3,[0,0,0,0])]:List Pc).length<=9223372036854775807:=by simp;omega
    have e:([]:List Pc)++t.post++t2.post++[(3,[0,0,0,0])]=(Rx.alt t t2).post:=rfl
    rw[iW t2,cond_false,if_pos c1,if_pos c2,if_pos c3,if_pos c4,if_pos c5,if_pos c6,e,iW,cond_false]
    exact hk (s.length-j2) _ (by omega) ⟨j2,.alt t t2,cf,rfl,⟨by omega,by omega,by simp only[Rx.len];omega,g4,f4⟩,by omega,rfl,hl⟩
  ·rw[if_neg hc]at hl
   rw[decide_eq_false hc,cond_false]
   subst hl
   rfl
theorem MD{s:List Int}(hb:Bytes s)(hs:s.length<=1600):∀ (n D i d:Nat),4*n<=D->s.length-i<n->i<=s.length->d<=i->OkQ (kf s n i d) ((cW N0 D).1 (s,((i:Int),((d:Int),())))):=by
 intro n
 induction n with
 |zero=>intro D i d _ h;omega
 |succ n ih=>
  intro D i d hD hn hi hd
  obtain⟨D,rfl⟩:∃ q,D=q+1+1+1+1:=⟨D-4,by omega⟩
  have cu:∀ i d,s.length-i<n->kg s i (kf s n i d):=λi d h=>j4 hb n i d h
  have Gc:∀ j,i<=j->kg s (j+1) (kf s n (j+1) (d+1)):=λj hij t j2 h=>by
   rcases ap j s.length with hlt|hge
   ·exact cu (j+1) (d+1) (by omega) t j2 h
   ·cases n with
    |zero=>cases h
    |succ n=>exact j4 hb (n+1) (j+1) (d+1) (by omega) t j2 h
  have ew:∀ j,i<=j->j<=s.length->OkQ (mK (kf s n) s j d) ((cW N0 (D+1)).2.2.2 (s,((j:Int),((d:Int),())))):=λj hij hj=>
   MB (q2:=(cW N0 (D)).1) (q3:=(cW N0 (D)).2.1) (q4:=(cW N0 (D)).2.2.1) (q5:=(cW N0 (D)).2.2.2) hb hs (bG hd hij) (λhlt=>ih D (j+1) (d+1) (by omega) (by omega) (by omega) (by omega)) (Gc j hij)
  have bD:∀ j,i<=j->j<=s.length->OkQ (kF (kf s n) s j d) ((cW N0 (D+1+1)).2.2.1 (s,((j:Int),((d:Int),())))):=λj hij hj=>
   Cb (q2:=(cW N0 (D+1)).1) (q3:=(cW N0 (D+1)).2.1) (q4:=(cW N0 (D+1)).2.2.1) (q5:=(cW N0 (D+1)).2.2.2) hb hs (ew j hij hj) (uA hb (Gc j hij))
  have x4:∀ j,i<=j->j<=s.length->OkQ (lF (kf s n) s j d) ((cW N0 (D+1+1+1)).2.1 (s,((j:Int),((d:Int),())))):=λj hij hj=>
   MC (q2:=(cW N0 (D+1+1)).1) (q3:=(cW N0 (D+1+1)).2.1) (q4:=(cW N0 (D+1+1)).2.2.1) (q5:=(cW N0 (D+1+1)).2.2.2) hb hs hj (λj2 hj2 hj3=>bD j2 (bG hij hj2) hj3) (λj2 hj2=>pV hb (Gc j2 (bG hij hj2)))
  exact Cc (q2:=(cW N0 (D+1+1+1)).1) (q3:=(cW N0 (D+1+1+1)).2.1) (q4:=(cW N0 (D+1+1+1)).2.2.1) (q5:=(cW N0 (D+1+1+1)).2.2.2) hb hs hi x4 (λj hij t j2 h=>pW hb n cu (by omega) t j2 h)
theorem Px{s:List Int}(hb:Bytes s):p97 N0 (s,())=some (IU (gd s)):=by
 unfold p97 gd
 dsimp only
 by_cases hs:1600<s.length
 ·rw[if_pos hs,decide_eq_true (show(1600:Int)<((s.length:Nat):Int) by omega),cond_true]
  rfl
 rw[if_neg hs,decide_eq_false (show ¬(1600:Int)<((s.length:Nat):Int) by omega),cond_false]
 have hq:OkQ (kf s s.length.succ 0 0) (O8 N0 (s,(((0:Nat):Int),(((0:Nat):Int),())))):=MD hb (by omega) s.length.succ N0 0 0 (by unfold N0;omega) (by omega) (aH _) (au _)
 have e0:(s,(((0:Nat):Int),(((0:Nat):Int),())))=(s,((0:Int),((0:Int),()))):=rfl
 rw[e0]at hq
 unfold OkQ at hq
 cases ho:kf s s.length.succ 0 0 with
 |none=>
  rw[ho]at hq
  obtain⟨k,hq⟩:=hq
  rw[ae hq]
  rfl
 |some p=>
  obtain⟨t,i⟩:=p
  rw[ho]at hq
  dsimp only at hq
  rw[ae hq]
  dsimp only
  refine aV ((),(decide (i<s.length),())) (λK=>?_) ?_
  ·have:decide (((i:Nat):Int)<((s.length:Nat):Int))=decide (i<s.length):=by rw[decide_eq_decide];omega
   rw[iW t,cond_false,this]
  dsimp only
  by_cases h2:i<s.length
  ·rw[if_pos h2,decide_eq_true h2];rfl
  rw[if_neg h2,decide_eq_false h2,cond_false]
  rw[t.aU]
  by_cases h3:400<t.len
  ·rw[if_pos h3,decide_eq_true (show(400:Int)<((t.len:Nat):Int) by omega)];rfl
  ·rw[if_neg h3,decide_eq_false (show ¬(400:Int)<((t.len:Nat):Int) by omega)];rfl
end
noncomputable section
def cI(k:Int):Int:=if k=0\/k=1 then 0 else if k=2\/k=3 then 2 else 1
theorem I2:∀ k:Fin 7,F6 N0 (((k.val:Nat):Int),())=some ((cI ((k.val:Nat):Int),()),()):=by decide +kernel
theorem sY{k:Int}(h:0<=k/\k<=6):F6 N0 (k,())=some ((cI k,()),()):=by
 have:=I2 ⟨k.toNat,by omega⟩
 simp only[dh h.1]at this
 exact this
theorem Cd{k:Int}{a:Rx}(h:(Rx.rep k a).ok):0<=k/\k<=6/\cI k=1:=by
 rcases h.1 with rfl|rfl|rfl <;> decide
theorem Ce{r:List Pc}(hr:r.length<=100000)(body)(RD:body=(λ(v3:Unit×(Int×(Int×Unit)))=>(λ(v4:(Unit×(Int×(Int×Unit)))->Option ((Int×Unit)×Unit))=>
 (bif decide (0<=v3.2.2.1)then(if 0<=v3.2.2.1 then(match r[(v3.2.2.1).toNat]? with|some v5=>(aj (F6 N0 (v5.1,())) (λv6=>(bif decide ((IntKind.wrap .i64 ((IntKind.wrap .i64 (v3.2.1-1))+v6.1.1))=0)then(some ((v3.2.2.1,()),()))else(v4 ((),((IntKind.wrap .i64 ((IntKind.wrap .i64 (v3.2.1-1))+v6.1.1)),((IntKind.wrap .i64 (v3.2.2.1-1)),())))))))|none=>none)else none)else(some ((0,()),())))))):
 ∀ (t:Rx) (F n:Nat) (l rest:List Pc),t.ok->r=l++t.post++rest->1<=n->n+t.len<=1000000->aF body (F+t.len) ((),((n:Int),(((l.length+t.len:Nat):Int)-1,())))=if n=1 then some ((((l.length:Nat):Int),()),())else aF body F ((),((n:Int)-1,(((l.length:Nat):Int)-1,()))):=by
 -- one step
 have step:∀ (F:Nat) (n i:Nat) (p:Pc),r[i]?=some p->0<=p.1/\p.1<=6->1<=n->n<=1000000->
  aF body (F+1) ((),((n:Int),((i:Int),())))=if(n:Int)-1+cI p.1=0 then some ((((i:Nat):Int),()),())else aF body F ((),((n:Int)-1+cI p.1,((i:Int)-1,()))):=by
  intro F n i p hp hk hn1 hn2
  have hi:i<r.length:=by
   rcases ap i r.length with h|h
   ·exact h
   ·rw[bx h]at hp;cases hp
  have ht:0<=cI p.1/\cI p.1<=2:=by
   unfold cI
   split
   ·omega
   ·split <;> omega
  rw[eI,RD]
  simp only
  have n0:(0:Int)<=(i:Int):=by omega
  have w1:IntKind.wrap .i64 ((n:Int)-1)=(n:Int)-1:=bC (by omega) (by omega)
  have w2:IntKind.wrap .i64 ((n:Int)-1+cI p.1)=(n:Int)-1+cI p.1:=bC (by omega) (by omega)
  have w3:IntKind.wrap .i64 ((i:Int)-1)=(i:Int)-1:=bC (by omega) (by omega)
  simp only[decide_eq_true n0,cond_true,if_pos n0,aa,hp,sY hk,aC,w1,w2,w3]
  by_cases h:(n:Int)-1+cI p.1=0
  ·rw[if_pos h,decide_eq_true h,cond_true]
  ·rw[if_neg h,decide_eq_false h,cond_false]
 intro t
 induction t with
 |eps=>
  intro F n l rest _ hr2 hn1 hn2
  simp only[Rx.len]
  have hp:r[l.length]?=some (0,zS):=by rw[hr2];simp[Rx.post]
  have e:((l.length+1:Nat):Int)-1=((l.length:Nat):Int):=by omega
  rw[e,step F n l.length _ hp (by decide) hn1 (by omega)]
  have e2:cI ((0,zS):Pc).1=0:=rfl
  rw[e2,Int.add_zero]
  by_cases h:n=1
  ·rw[if_pos h,if_pos (by omega)]
  ·rw[if_neg h,if_neg (by omega)]
 |set S=>
  intro F n l rest _ hr2 hn1 hn2
  simp only[Rx.len]
  have hp:r[l.length]?=some (1,S):=by rw[hr2];simp[Rx.post]
  have e:((l.length+1:Nat):Int)-1=((l.length:Nat):Int):=by omega
  rw[e,step F n l.length _ hp ⟨(by decide:(0:Int)<=1),(by decide:(1:Int)<=6)⟩ hn1 (by omega)]
  have e2:cI ((1,S):Pc).1=0:=rfl
  rw[e2,Int.add_zero]
  by_cases h:n=1
  ·rw[if_pos h,if_pos (by omega)]
  ·rw[if_neg h,if_neg (by omega)]
 |cat a b iha ihb=>
  intro F n l rest hok hr2 hn1 hn2
  simp only[Rx.len]at hn2 |-
  have hp:r[l.length+(a.len+b.len)]?=some (2,zS):=by
   rw[hr2]
   simp[Rx.post,<-a.aU,<-b.aU,cE]
  have e:((l.length+(a.len+b.len+1):Nat):Int)-1=((l.length+(a.len+b.len):Nat):Int):=by omega
  rw[e,show F+(a.len+b.len+1)=(F+a.len+b.len)+1 by omega,step _ n _ _ hp (by decide) hn1 (by omega)]
  have e2:cI ((2,zS):Pc).1=2:=rfl
  rw[e2,if_neg (by omega)]
  have hb:=ihb (F+a.len) (n+1) (l++a.post) ([(2,zS)]++rest) hok.2 (by rw[hr2];simp[Rx.post]) (by omega) (by omega)
  rw[if_neg (by omega)]at hb
  have e3:(n:Int)-1+2=((n+1:Nat):Int):=by omega
  have e4:((l.length+(a.len+b.len):Nat):Int)-1=(((l++a.post).length+b.len:Nat):Int)-1:=by rw[ak,a.aU];omega
  rw[e3,e4,hb]
  have ha:=iha F n l (b.post++[(2,zS)]++rest) hok.1 (by rw[hr2];simp[Rx.post]) hn1 (by omega)
  have e5:((n+1:Nat):Int)-1=(n:Int):=by omega
  rw[e5,ak,a.aU,ha]
 |alt a b iha ihb=>
  intro F n l rest hok hr2 hn1 hn2
  simp only[Rx.len]at hn2 |-
  have hp:r[l.length+(a.len+b.len)]?=some (3,zS):=by
   rw[hr2]
   simp[Rx.post,<-a.aU,<-b.aU,cE]
  have e:((l.length+(a.len+b.len+1):Nat):Int)-1=((l.length+(a.len+b.len):Nat):Int):=by omega
  rw[e,show F+(a.len+b.len+1)=(F+a.len+b.len)+1 by omega,step _ n _ _ hp (by decide) hn1 (by omega)]
  have e2:cI ((3,zS):Pc).1=2:=rfl
  rw[e2,if_neg (by omega)]
  have hb:=ihb (F+a.len) (n+1) (l++a.post) ([(3,zS)]++rest) hok.2 (by rw[hr2];simp[Rx.post]) (by omega) (by omega)
  rw[if_neg (by omega)]at hb
  have e3:(n:Int)-1+2=((n+1:Nat):Int):=by omega
  have e4:((l.length+(a.len+b.len):Nat):Int)-1=(((l++a.post).length+b.len:Nat):Int)-1:=by rw[ak,a.aU];omega
  rw[e3,e4,hb]
  have ha:=iha F n l (b.post++[(3,zS)]++rest) hok.1 (by rw[hr2];simp[Rx.post]) hn1 (by omega)
  have e5:((n+1:Nat):Int)-1=(n:Int):=by omega
  rw[e5,ak,a.aU,ha]
 |rep k a iha=>
  intro F n l rest hok hr2 hn1 hn2
  simp only[Rx.len]at hn2 |-
  obtain⟨k1,k2,k3⟩:=Cd hok
  have hp:r[l.length+a.len]?=some (k,zS):=by
   rw[hr2]
   simp[Rx.post,<-a.aU]
  have e:((l.length+(a.len+1):Nat):Int)-1=((l.length+a.len:Nat):Int):=by omega
  rw[e,show F+(a.len+1)=(F+a.len)+1 by omega,step _ n _ _ hp ⟨k1,k2⟩ hn1 (by omega)]
  have e2:cI ((k,zS):Pc).1=1:=k3
  rw[e2,if_neg (by omega)]
  have ha:=iha F n l ([(k,zS)]++rest) hok.2 (by rw[hr2];simp[Rx.post]) hn1 (by omega)
  have e5:(n:Int)-1+1=(n:Int):=by omega
  rw[e5,ha]
theorem DF{l rest:List Pc}{t:Rx}(hok:t.ok)(hl:(l++t.post++rest).length<=100000):B3 N0 (l++t.post++rest,(((l.length+t.len:Nat):Int)-1,()))=some ((((l.length:Nat):Int),()),()):=by
 have hlen:t.len<=100000:=by
  have:=t.aU
  rw[ak,ak]at hl
  omega
 have h:=Ce hl _ rfl t (N0-t.len) 1 l rest hok rfl (by omega) (by omega)
 rw[if_pos rfl,show N0-t.len+t.len=N0 by unfold N0;omega]at h
 exact h
end
noncomputable section
theorem p6{α:Type}(l m rest:List α):cz (l++m++rest) ((l.length:Nat):Int) ((l.length+m.length:Nat):Int)=m:=by
 unfold cz
 rw[aa,aa,qx,aM,n9,List.take_left]
theorem ku{r0:List Pc}{p:Pc}(h:r0.length<=100000):IntKind.wrap .i64 ((((r0++[p]).length:Nat):Int)-1)=((r0.length:Nat):Int)/\(r0++[p])[r0.length]?=some p:=by
 constructor
 ·have:((((r0++[p]).length:Nat):Int)-1)=((r0.length:Nat):Int):=by rw[ak];simp
  rw[this];exact bH (by omega)
 ·simp
theorem Gd{p:Pc}(hk:0<=p.1/\p.1<=6)(ht:cI p.1=0):xL N0 ([p],())=some (([],()),()):=by
 obtain⟨h1,h2⟩:=ku (r0:=[]) (p:=p) (by simp)
 unfold xL
 have n0:(0:Int)<=((([]:List Pc).length:Nat):Int):=by omega
 rw[bM]at h1 h2
 simp only[h1,if_pos n0,aa,h2,sY hk,aC,ht]
 refine aZ (λm x r=>x=((),([],(((([]:List Pc).length:Nat):Int),((0:Int),()))))/\r=some (([],()),())) ?_ N0 0 _ _ (by unfold N0;omega) ⟨rfl,rfl⟩
 rintro m x r ⟨rfl,rfl⟩ k hk
 rfl
theorem wH{rest:List Pc}{t:Rx}(hok:t.ok)(hl:(t.post++rest).length<=100000):B3 N0 (t.post++rest,(((t.post.length:Nat):Int)-1,()))=some (((0:Int),()),()):=by
 have e1:([]:List Pc)++t.post=t.post:=bM _
 have:=DF (l:=[]) (rest:=rest) (t:=t) hok (by rw[e1];exact hl)
 have e2:([]:List Pc).length+t.len=t.post.length:=by rw[t.aU,bJ,eC]
 have e3:((([]:List Pc).length:Nat):Int)=0:=rfl
 rw[e1,e2,e3]at this
 exact this
theorem I3{a:Rx}{p:Pc}(ha:a.ok)(hl:a.len<=10000)(hk:0<=p.1/\p.1<=6)(ht:cI p.1=1):xL N0 (a.post++[p],())=some (([a.post],()),()):=by
 have pl:=a.aU
 obtain⟨h1,h2⟩:=ku (r0:=a.post) (p:=p) (by omega)
 have n0:(0:Int)<=((a.post.length:Nat):Int):=by omega
 have q1:B3 N0 (a.post++[p],(((a.post.length:Nat):Int)-1,()))=some (((0:Int),()),()):=by
  exact wH ha (by rw[ak,iq];omega)
 unfold xL
 simp only[h1]
 rw[if_pos n0,aa,h2]
 simp only
 rw[ae (sY hk),ht]
 simp only
 refine aZ (λm x r=>((m=1/\x=((),([],(((a.post.length:Nat):Int),((1:Int),())))))\/(m=0/\x=((),([a.post],((0:Int),((0:Int),()))))))/\r=some (([a.post],()),())) ?_ N0 1 _ _ (by unfold N0;omega) ⟨.inl ⟨rfl,rfl⟩,rfl⟩
 rintro m x r ⟨hx,rfl⟩ k hk
 rcases hx with⟨rfl,rfl⟩|⟨rfl,rfl⟩
 ·have w1:IntKind.wrap .i64 (((a.post.length:Nat):Int)-1)=((a.post.length:Nat):Int)-1:=bC (by omega) (by omega)
  have c0:(0:Int)<=0/\(0:Int)<=((a.post.length:Nat):Int)/\((a.post.length:Nat):Int)<=(((a.post++[p]).length:Nat):Int):=⟨by omega,by omega,by rw[ak];omega⟩
  have rJ:cz (a.post++[p]) 0 ((a.post.length:Nat):Int)=a.post:=by
   have:=p6 ([]:List Pc) a.post [p]
   simpa using this
  have f1:(([a.post]:List (List Pc)).length+([]:List (List Pc)).length)*24<=140737488355328:=by simp
  have f2:([a.post]:List (List Pc)).length+([]:List (List Pc)).length<=9223372036854775807:=by simp
  have w2:IntKind.wrap .i64 ((1:Int)-1)=0:=bC (by omega) (by omega)
  simp only[show decide ((0:Int)<1)=true from rfl,cond_true,w1,q1,aC,if_pos c0,rJ,if_pos f1,if_pos f2,w2,b9]
  exact hk 0 _ _ (by omega) ⟨.inr ⟨rfl,rfl⟩,rfl⟩
 ·simp only[show decide ((0:Int)<0)=false from rfl,cond_false]
theorem Aq{a b:Rx}{p:Pc}(ha:a.ok)(hb:b.ok)(hl:a.len+b.len<=10000)(hk:0<=p.1/\p.1<=6)(ht:cI p.1=2):xL N0 (a.post++b.post++[p],())=some (([a.post,b.post],()),()):=by
 have pl:=a.aU
 have pl2:=b.aU
 have Va:(a.post++b.post++[p]).length=(a.post++b.post).length+1:=by rw[ak];rfl
 have lab:(a.post++b.post).length=a.post.length+b.post.length:=ak
 obtain⟨h1,h2⟩:=ku (r0:=a.post++b.post) (p:=p) (by rw[ak];omega)
 have n0:(0:Int)<=(((a.post++b.post).length:Nat):Int):=by omega
 have q1:B3 N0 (a.post++b.post++[p],((((a.post++b.post).length:Nat):Int)-1,()))=some ((((a.post.length:Nat):Int),()),()):=by
  have:=DF (l:=a.post) (rest:=[p]) (t:=b) hb (by simp;omega)
  rw[ak,pl2]
  exact this
 have q2:B3 N0 (a.post++b.post++[p],(((a.post.length:Nat):Int)-1,()))=some (((0:Int),()),()):=by
  rw[aM]
  exact wH ha (by rw[ak,ak,iq];omega)
 unfold xL
 simp only[h1]
 rw[if_pos n0,aa,h2]
 simp only
 rw[ae (sY hk),ht]
 simp only
 refine aZ (λm x r=>((m=2/\x=((),([],((((a.post++b.post).length:Nat):Int),((2:Int),())))))\/(m=1/\x=((),([b.post],(((a.post.length:Nat):Int),((1:Int),())))))\/(m=0/\x=((),([a.post,b.post],((0:Int),((0:Int),()))))))/\r=some (([a.post,b.post],()),())) ?_ N0 2 _ _ (by unfold N0;omega) ⟨.inl ⟨rfl,rfl⟩,rfl⟩
 rintro m x r ⟨hx,rfl⟩ k hk
 rcases hx with⟨rfl,rfl⟩|⟨rfl,rfl⟩|⟨rfl,rfl⟩
 ·have w1:IntKind.wrap .i64 ((((a.post++b.post).length:Nat):Int)-1)=(((a.post++b.post).length:Nat):Int)-1:=bC (by omega) (by rw[ak];omega)
  have c0:(0:Int)<=((a.post.length:Nat):Int)/\((a.post.length:Nat):Int)<=(((a.post++b.post).length:Nat):Int)/\(((a.post++b.post).length:Nat):Int)<=(((a.post++b.post++[p]).length:Nat):Int):=⟨by omega,by omega,by omega⟩
  have rJ:cz (a.post++b.post++[p]) ((a.post.length:Nat):Int) (((a.post++b.post).length:Nat):Int)=b.post:=by
   rw[lab]
   exact p6 a.post b.post [p]
  have f1:(([b.post]:List (List Pc)).length+([]:List (List Pc)).length)*24<=140737488355328:=by simp
  have f2:([b.post]:List (List Pc)).length+([]:List (List Pc)).length<=9223372036854775807:=by simp
  have w2:IntKind.wrap .i64 ((2:Int)-1)=1:=bC (by omega) (by omega)
  simp only[show decide ((0:Int)<2)=true from rfl,cond_true,w1,q1,aC,if_pos c0,rJ,if_pos f1,if_pos f2,w2,b9]
  exact hk 1 _ _ (by omega) ⟨.inr (.inl ⟨rfl,rfl⟩),rfl⟩
 ·have w1:IntKind.wrap .i64 (((a.post.length:Nat):Int)-1)=((a.post.length:Nat):Int)-1:=bC (by omega) (by omega)
  have c0:(0:Int)<=0/\(0:Int)<=((a.post.length:Nat):Int)/\((a.post.length:Nat):Int)<=(((a.post++b.post++[p]).length:Nat):Int):=⟨by omega,by omega,by rw[ak,ak];omega⟩
  have rJ:cz (a.post++b.post++[p]) 0 ((a.post.length:Nat):Int)=a.post:=by
   have:=p6 ([]:List Pc) a.post (b.post++[p])
   simpa using this
  have f1:(([a.post]:List (List Pc)).length+([b.post]:List (List Pc)).length)*24<=140737488355328:=by simp
  have f2:([a.post]:List (List Pc)).length+([b.post]:List (List Pc)).length<=9223372036854775807:=by simp
  have w2:IntKind.wrap .i64 ((1:Int)-1)=0:=bC (by omega) (by omega)
  simp only[show decide ((0:Int)<1)=true from rfl,cond_true,w1,q2,aC,if_pos c0,rJ,if_pos f1,if_pos f2,w2]
  exact hk 0 _ _ (by omega) ⟨.inr (.inr ⟨rfl,rfl⟩),rfl⟩
 ·simp only[show decide ((0:Int)<0)=false from rfl,cond_false]
theorem x6(a b:Bool):Is N0 ([a],([b],()))=some (([a||b],()),()):=by
 revert a b
 decide +kernel
abbrev EnF:=(List Pc×(List Int×(List Bool×Unit)))->Option ((List Bool×Unit)×Unit)
theorem I4{q2 q3:EnF}{r:List Pc}{n:Bool}(h:∀ b,q2 (r,([],([b],())))=some (([b&&n],()),()))(b:Bool):Ac N0 q2 q3 (r,([],([b],())))=some (([b],()),()):=by
 unfold Ac
 dsimp only
 refine aZ (λm x q=>x=((),([b],((0:Int),())))/\q=some (([b],()),())) ?_ N0 0 _ _ (by unfold N0;omega) ⟨rfl,rfl⟩
 rintro m x q ⟨rfl,rfl⟩ k hk
 have e1:decide ((0:Int)<=((([]:List Int).length:Nat):Int))=true:=rfl
 have e2:(b||(b&&n))=b:=by cases b <;> rfl
 simp only[e1,cond_true,h b,aC,x6,e2]
 refine aZ (λm x q=>((m=1/\x=((),(true,((0:Int),()))))\/(m=0/\x=((),(true,((1:Int),())))))/\q=some (([b],()),())) ?_ N0 1 _ _ (by unfold N0;omega) ⟨.inl ⟨rfl,rfl⟩,rfl⟩
 rintro m x q ⟨hx,rfl⟩ k2 hk2
 rcases hx with⟨rfl,rfl⟩|⟨rfl,rfl⟩
 ·have g0:([b]:List Bool)[((0:Int)).toNat]?=some b:=rfl
  have e3:decide ((0:Int)<(([b]:List Bool).length:Nat))=true:=rfl
  have n0:(0:Int)<=0:=by omega
  simp only[e3,cond_true,aL,if_pos n0,g0,beq_self_eq_true]
  exact hk2 0 _ _ (by omega) ⟨.inr ⟨rfl,rfl⟩,rfl⟩
 ·rfl
end
noncomputable section
theorem Ar{α:Type}(x:α)(l:List α):(x::l)[((0:Int)).toNat]?=some x:=rfl
theorem RE{α:Type}(x y:α)(l:List α):(x::y::l)[((1:Int)).toNat]?=some y:=rfl
theorem As{p:Pc}(hk:0<=p.1/\p.1<=6)(ht:cI p.1=0):xL N0 ([]++[p],())=some (([],()),()):=by
 rw[bM];exact Gd hk ht
theorem z0:(0:Int)<=0:=by omega
theorem z1:(0:Int)<=1:=by omega
theorem ME:∀ (t:Rx),t.ok->t.len<=10000->∀ (D:Nat) (b:Bool),2*t.len<=D->(gn N0 D).1 (t.post,([],([b],())))=some (([b&&t.null],()),()):=by
 have c0:∀ b:Bool,(0:Int)<=(([b]:List Bool).length:Nat)/\((([b]:List Bool).length:Nat):Int)<=(([b]:List Bool).length:Nat):=λb=>⟨by omega,by omega⟩
 have c1:∀ b:Bool,(((([b]:List Bool).length:Nat):Int)).toNat*1<=140737488355328:=λb=>by rw[aa,iq];omega
 intro t
 induction t with
 |eps=>
  intro _ _ D b hD
  obtain⟨D,rfl⟩:∃ q,D=q+1:=⟨D-1,by simp only[Rx.len]at hD;omega⟩
  obtain⟨h1,h2⟩:=ku (r0:=[]) (p:=(0,zS)) (by simp)
  have n0:(0:Int)<=((([]:List Pc).length:Nat):Int):=by omega
  show lD N0 (gn N0 D).1 (gn N0 D).2 ([]++[(0,zS)],([],([b],())))=_
  unfold lD
  simp only[h1]
  rw[if_pos (c0 b),if_pos (c1 b),ae (As (p:=(0,zS)) (by decide) rfl)]
  simp only
  rw[if_pos n0,aa,h2]
  simp only
  rw[decide_true,cond_true,Rx.null,Bool.and_true]
 |set S=>
  intro _ _ D b hD
  obtain⟨D,rfl⟩:∃ q,D=q+1:=⟨D-1,by simp only[Rx.len]at hD;omega⟩
  obtain⟨h1,h2⟩:=ku (r0:=[]) (p:=(1,S)) (by simp)
  have n0:(0:Int)<=((([]:List Pc).length:Nat):Int):=by omega
  show lD N0 (gn N0 D).1 (gn N0 D).2 ([]++[(1,S)],([],([b],())))=_
  unfold lD
  simp only[h1]
  rw[if_pos (c0 b),if_pos (c1 b),ae (As (p:=(1,S)) ⟨z1,(by decide:(1:Int)<=6)⟩ rfl)]
  simp only
  rw[if_pos n0,aa,h2]
  simp only
  rw[show decide ((1:Int)=0)=false from rfl,cond_false,decide_true,cond_true,Rx.null,Bool.and_false]
  refine aZ (λm x q=>x=(([false],()),((0:Int),()))/\q=some (([false],()),())) ?_ N0 0 _ _ (by unfold N0;omega) ⟨rfl,rfl⟩
  rintro m x q ⟨rfl,rfl⟩ k hk
  simp only
  rw[show decide ((0:Int)<((([]:List Int).length:Nat):Int))=false from rfl,cond_false]
 |cat u v ihu ihv=>
  intro hok hl D b hD
  simp only[Rx.len]at hl hD
  obtain⟨D,rfl⟩:∃ q,D=q+1:=⟨D-1,by omega⟩
  obtain⟨h1,h2⟩:=ku (r0:=u.post++v.post) (p:=(2,zS)) (by rw[ak,u.aU,v.aU];omega)
  have n0:(0:Int)<=(((u.post++v.post).length:Nat):Int):=by omega
  show lD N0 (gn N0 D).1 (gn N0 D).2 (u.post++v.post++[(2,zS)],([],([b],())))=_
  unfold lD
  simp only[h1]
  rw[if_pos (c0 b),if_pos (c1 b),ae (Aq (p:=(2,zS)) hok.1 hok.2 (by omega) (by decide) rfl)]
  simp only
  rw[if_pos n0,aa,h2]
  simp only
  rw[show decide ((2:Int)=0)=false from rfl,cond_false,show decide ((2:Int)=1)=false from rfl,cond_false,decide_true,cond_true,if_pos z1,RE]
  simp only
  rw[if_pos z0,Ar]
  simp only
  rw[ae (ihu hok.1 (by omega) D b (by omega))]
  simp only
  rw[ae (ihv hok.2 (by omega) D (b&&u.null) (by omega))]
  simp only
  rw[Rx.null,n5]
 |alt u v ihu ihv=>
  intro hok hl D b hD
  simp only[Rx.len]at hl hD
  obtain⟨D,rfl⟩:∃ q,D=q+1:=⟨D-1,by omega⟩
  obtain⟨h1,h2⟩:=ku (r0:=u.post++v.post) (p:=(3,zS)) (by rw[ak,u.aU,v.aU];omega)
  have n0:(0:Int)<=(((u.post++v.post).length:Nat):Int):=by omega
  show lD N0 (gn N0 D).1 (gn N0 D).2 (u.post++v.post++[(3,zS)],([],([b],())))=_
  unfold lD
  simp only[h1]
  rw[if_pos (c0 b),if_pos (c1 b),ae (Aq (p:=(3,zS)) hok.1 hok.2 (by omega) (by decide) rfl)]
  simp only
  rw[if_pos n0,aa,h2]
  simp only
  rw[show decide ((3:Int)=0)=false from rfl,cond_false,show decide ((3:Int)=1)=false from rfl,cond_false,show decide ((3:Int)=2)=false from rfl,cond_false,decide_true,cond_true,if_pos z0,Ar]
  simp only
  rw[ae (ihu hok.1 (by omega) D b (by omega))]
  simp only
  rw[if_pos z1,RE]
  simp only
  rw[ae (ihv hok.2 (by omega) D b (by omega))]
  simp only
  rw[ae (x6 _ _),Rx.null]
  have e:((b&&u.null)||(b&&v.null))=(b&&(u.null||v.null)):=by cases b <;> simp
  simp only
  rw[e]
 |rep kd u ihu=>
  intro hok hl D b hD
  simp only[Rx.len]at hl hD
  have hup:=u.bL
  obtain⟨D,rfl⟩:∃ q,D=q+1+1:=⟨D-2,by omega⟩
  obtain⟨k1,k2,k3⟩:=Cd hok
  obtain⟨h1,h2⟩:=ku (r0:=u.post) (p:=(kd,zS)) (by rw[u.aU];omega)
  have n0:(0:Int)<=((u.post.length:Nat):Int):=by omega
  show lD N0 (gn N0 (D+1)).1 (gn N0 (D+1)).2 (u.post++[(kd,zS)],([],([b],())))=_
  unfold lD
  simp only[h1]
  rw[if_pos (c0 b),if_pos (c1 b),ae (I3 (p:=(kd,zS)) hok.2 (by omega) ⟨k1,k2⟩ k3)]
  simp only
  rw[if_pos n0,aa,h2]
  simp only
  have hag:∀ b:Bool,(gn N0 (D+1)).2 (u.post,([],([b],())))=some (([b],()),()):=λb=>
   I4 (q2:=(gn N0 D).1) (q3:=(gn N0 D).2) (n:=u.null) (λb=>ihu hok.2 (by omega) D b (by omega)) b
  have hu:=λb=>ihu hok.2 (by omega) (D+1) b (by omega)
  rcases hok.1 with rfl|rfl|rfl
  ·rw[show decide ((4:Int)=0)=false from rfl,cond_false,show decide ((4:Int)=1)=false from rfl,cond_false,show decide ((4:Int)=2)=false from rfl,cond_false,show decide ((4:Int)=3)=false from rfl,cond_false,show decide ((4:Int)=6)=false from rfl,cond_false,if_pos n0]
   rw[show decide ((4:Int)=4)=true from rfl,cond_true,if_pos z0,Ar]
   simp only
   rw[ae (hag b)]
   simp only
   have e:(b&&(Rx.rep 4 u).null)=b:=by simp[Rx.null]
   rw[e]
  ·rw[show decide ((5:Int)=0)=false from rfl,cond_false,show decide ((5:Int)=1)=false from rfl,cond_false,show decide ((5:Int)=2)=false from rfl,cond_false,show decide ((5:Int)=3)=false from rfl,cond_false,show decide ((5:Int)=6)=false from rfl,cond_false,if_pos n0]
   rw[show decide ((5:Int)=4)=false from rfl,cond_false,if_pos z0,Ar]
   simp only
   rw[if_pos z0]
   rw[ae (hu b)]
   simp only
   rw[ae (hag _)]
   simp only
   have e:(Rx.rep 5 u).null=u.null:=by simp[Rx.null]
   rw[e]
  ·rw[show decide ((6:Int)=0)=false from rfl,cond_false,show decide ((6:Int)=1)=false from rfl,cond_false,show decide ((6:Int)=2)=false from rfl,cond_false,show decide ((6:Int)=3)=false from rfl,cond_false,show decide ((6:Int)=6)=true from rfl,cond_true,if_pos z0,Ar]
   simp only
   rw[ae (hu b)]
   simp only
   rw[ae (x6 _ _)]
   simp only
   have e:(b||(b&&u.null))=(b&&(Rx.rep 6 u).null):=by cases b <;> simp[Rx.null]
   rw[e]
theorem Py{t:Rx}(hok:t.ok)(hl:t.len<=10000):p98 N0 (t.post,([],()))=some ((t.null,()),()):=by
 have h:=ME t hok hl N0 true (by unfold N0;omega)
 unfold p98
 have w:IntKind.wrap .i64 ((((([]:List Int).length:Nat):Int))+1)=1:=bC (by simp) (by simp)
 simp only[w]
 rw[if_pos (show(0:Int)<=1/\(1:Int)<=1 by omega),if_pos (show((1:Int)).toNat*1<=140737488355328 by decide),if_pos z0,show(List.replicate ((1:Int)).toNat false)[((0:Int)).toNat]?=some false from rfl]
 simp only
 rw[if_pos z0,show(List.replicate ((1:Int)).toNat false).set ((0:Int)).toNat true=[true]from rfl]
 have h2:Pe N0 (t.post,([],([true],())))=some (([true&&t.null],()),()):=h
 rw[ae h2]
 simp only
 rw[show(((([]:List Int).length:Nat):Int))=0 from rfl,if_pos z0,Ar]
 simp only
 rw[bF]
end
noncomputable section
theorem sZ{S:List Int}{w:Nat}{x:Int}(hx:S[w]?=some x)(h:0<=x/\x<=18446744073709551615):x=((br (λi=>((S[i / 64]?).getD 0).toNat.testBit (i % 64)) w:Nat):Int):=by
 have:x.toNat=br (λi=>((S[i / 64]?).getD 0).toNat.testBit (i % 64)) w:=by
  apply oC
  intro i
  by_cases hi:i<64
  ·have e1:(64*w+i) / 64=w:=by omega
   have e2:(64*w+i) % 64=i:=by omega
   rw[e1,e2,hx,decide_eq_true hi,bF]
   rfl
  ·rw[decide_eq_false hi,dI]
   apply jy
   have:x.toNat<2 ^ 64:=by omega
   exact bz this (iu (by omega) (by omega))
 omega
theorem DG{S:List Int}(h1:S.length=4)(h2:∀ x∈S,0<=x/\x<=18446744073709551615):∃ l,S=ofB l:=by
 match S,h1 with
 |[a,b,c,d],_=>
  refine⟨λi=>((([a,b,c,d]:List Int)[i / 64]?).getD 0).toNat.testBit (i % 64),?_⟩
  have e0:=sZ (S:=[a,b,c,d]) (w:=0) rfl (h2 a (by simp))
  have e1:=sZ (S:=[a,b,c,d]) (w:=1) rfl (h2 b (by simp))
  have e2:=sZ (S:=[a,b,c,d]) (w:=2) rfl (h2 c (by simp))
  have e3:=sZ (S:=[a,b,c,d]) (w:=3) rfl (h2 d (by simp))
  unfold ofB
  rw[<-e0,<-e1,<-e2,<-e3]
theorem Au{S:List Int}(h1:S.length=4)(h2:∀ x∈S,0<=x/\x<=18446744073709551615):sP N0 (S,())=some ((decide (S=zS),()),()):=by
 obtain⟨l,rfl⟩:=DG h1 h2
 rw[Dv]
 have:et l=decide (ofB l=zS):=by
  rw[cd,decide_eq_true_eq,gZ]
 rw[this]
theorem s7:sP N0 (zS,())=some ((true,()),()):=by
 rw[Au rfl (by decide)]
 rfl
theorem iK{k:Int}(h:0<=k/\k<=6):zU N0 (k,())=some ((cI k,()),()):=by
 rw[xZ]
 have:(if k=0\/k=1 then(0:Int)else if k=4\/k=5\/k=6 then 1 else if k=2\/k=3 then 2 else -1)=cI k:=by
  unfold cI
  by_cases h0:k=0\/k=1
  ·rw[if_pos h0,if_pos h0]
  ·rw[if_neg h0,if_neg h0]
   by_cases h1:k=2\/k=3
   ·rw[if_neg (by omega),if_pos h1,if_pos h1]
   ·rw[if_pos (by omega),if_neg h1]
 rw[this]
abbrev ChS:=Unit×(Int×(Int×Unit))
def chB(r:List Pc):ChS->(ChS->Option ((Int×Unit)×Unit))->Option ((Int×Unit)×Unit):=λv3 v4=>
 (bif decide (v3.2.2.1<((r.length:Nat):Int))then(if 0<=v3.2.2.1 then(match r[(v3.2.2.1).toNat]? with|some v5=>(aj (zU N0 (v5.1,())) λv6=>(aw (λ(v7:Unit×(Bool×Unit))=>(bif v7.2.1 then some ((5,()),())else v4 ((),(IntKind.wrap .i64 (v3.2.1+IntKind.wrap .i64 (1-v6.1.1)),(IntKind.wrap .i64 (v3.2.2.1+1),()))))) λv8=>(bif decide (v6.1.1<0)then v8 ((),(true,()))else(bif decide (v3.2.1<v6.1.1)then v8 ((),(true,()))else(aj (sP N0 (v5.2,())) λv9=>v8 ((),((decide (v5.1=1) == v9.1.1),())))))))|none=>none)else none)else(bif !decide (v3.2.1=1)then some ((5,()),())else some ((0,()),())))
theorem qa{r:List Pc}(hr:r.length<=100000)(F d i:Nat)(p:Pc)(hp:r[i]?=some p)(hk:0<=p.1/\p.1<=6)(hd:cI p.1<=(d:Int))(hd2:d<=1000000)(hs:sP N0 (p.2,())=some ((!decide (p.1=1),()),())):
 aF (chB r) (F+1) ((),((d:Int),((i:Int),())))=aF (chB r) F ((),((d:Int)+(1-cI p.1),(((i+1:Nat):Int),()))):=by
 have hi:i<r.length:=by
  rcases ap i r.length with h|h
  ·exact h
  ·rw[bx h]at hp;cases hp
 have ht:0<=cI p.1/\cI p.1<=2:=by
  unfold cI
  split
  ·omega
  ·split <;> omega
 rw[eI]
 unfold chB
 simp only
 have n0:(0:Int)<=(i:Int):=by omega
 have w1:IntKind.wrap .i64 (1-cI p.1)=1-cI p.1:=bC (by omega) (by omega)
 have w2:IntKind.wrap .i64 ((d:Int)+(1-cI p.1))=(d:Int)+(1-cI p.1):=bC (by omega) (by omega)
 rw[decide_eq_true (show(i:Int)<((r.length:Nat):Int) by omega),cond_true,if_pos n0,aa,hp]
 simp only
 rw[ae (iK hk)]
 simp only
 refine aV ((),(false,())) (λK=>?_) ?_
 ·rw[decide_eq_false (show ¬cI p.1<0 by omega),cond_false,decide_eq_false (show ¬(d:Int)<cI p.1 by omega),cond_false,ae hs]
  cases decide (p.1=1) <;> rfl
 ·simp only
  rw[cond_false,w1,w2,cY (by omega)]
theorem MF{r:List Pc}(hr:r.length<=100000):∀ (t:Rx) (F d:Nat) (l rest:List Pc),t.ok->r=l++t.post++rest->d+t.len<=1000000->
 aF (chB r) (F+t.len) ((),((d:Int),((l.length:Int),())))=aF (chB r) F ((),(((d+1:Nat):Int),(((l.length+t.len:Nat):Int),()))):=by
 intro t
 induction t with
 |eps=>
  intro F d l rest _ hr2 hd
  simp only[Rx.len]
  have hp:r[l.length]?=some (0,zS):=by rw[hr2];simp[Rx.post]
  rw[qa hr F d l.length _ hp (by decide) (by show(0:Int)<=_;omega) (by omega) s7]
  rfl
 |set S=>
  intro F d l rest hok hr2 hd
  simp only[Rx.len]
  have hp:r[l.length]?=some (1,S):=by rw[hr2];simp[Rx.post]
  have hs:=Au hok.1 hok.2.2
  rw[decide_eq_false hok.2.1]at hs
  rw[qa hr F d l.length _ hp ⟨z1,(by decide:(1:Int)<=6)⟩ (by show(0:Int)<=_;omega) (by omega) hs]
  rfl
 |cat a b iha ihb=>
  intro F d l rest hok hr2 hd
  simp only[Rx.len]at hd |-
  have pa:=a.bL
  have pb:=b.bL
  have hp:r[l.length+a.len+b.len]?=some (2,zS):=by
   rw[hr2]
   simp[Rx.post,<-a.aU,<-b.aU,cE]
  rw[show F+(a.len+b.len+1)=(F+1+b.len)+a.len by omega,iha (F+1+b.len) d l (b.post++[(2,zS)]++rest) hok.1 (by rw[hr2];simp[Rx.post]) (by omega)]
  have hb:=ihb (F+1) (d+1) (l++a.post) ([(2,zS)]++rest) hok.2 (by rw[hr2];simp[Rx.post]) (by omega)
  rw[ak,a.aU]at hb
  rw[hb,qa hr F (d+1+1) _ _ hp (by decide) (by show(2:Int)<=_;omega) (by omega) s7]
  have e1:((d+1+1:Nat):Int)+(1-cI ((2,zS):Pc).1)=((d+1:Nat):Int):=by
   show _+(1-2:Int)=_
   omega
  have e2:l.length+a.len+b.len+1=l.length+(a.len+b.len+1):=by omega
  rw[e1,e2]
 |alt a b iha ihb=>
  intro F d l rest hok hr2 hd
  simp only[Rx.len]at hd |-
  have pa:=a.bL
  have pb:=b.bL
  have hp:r[l.length+a.len+b.len]?=some (3,zS):=by
   rw[hr2]
   simp[Rx.post,<-a.aU,<-b.aU,cE]
  rw[show F+(a.len+b.len+1)=(F+1+b.len)+a.len by omega,iha (F+1+b.len) d l (b.post++[(3,zS)]++rest) hok.1 (by rw[hr2];simp[Rx.post]) (by omega)]
  have hb:=ihb (F+1) (d+1) (l++a.post) ([(3,zS)]++rest) hok.2 (by rw[hr2];simp[Rx.post]) (by omega)
  rw[ak,a.aU]at hb
  rw[hb,qa hr F (d+1+1) _ _ hp (by decide) (by show(2:Int)<=_;omega) (by omega) s7]
  have e1:((d+1+1:Nat):Int)+(1-cI ((3,zS):Pc).1)=((d+1:Nat):Int):=by
   show _+(1-2:Int)=_
   omega
  have e2:l.length+a.len+b.len+1=l.length+(a.len+b.len+1):=by omega
  rw[e1,e2]
 |rep k a iha=>
  intro F d l rest hok hr2 hd
  simp only[Rx.len]at hd |-
  obtain⟨k1,k2,k3⟩:=Cd hok
  have hp:r[l.length+a.len]?=some (k,zS):=by
   rw[hr2]
   simp[Rx.post,<-a.aU]
  have hk1:decide (k=1)=false:=by
   rcases hok.1 with rfl|rfl|rfl <;> rfl
  have hs:sP N0 (((k,zS):Pc).2,())=some ((!decide (((k,zS):Pc).1=1),()),()):=by
   show sP N0 (zS,())=some ((!decide (k=1),()),())
   rw[s7,hk1];rfl
  rw[show F+(a.len+1)=(F+1)+a.len by omega,iha (F+1) d l ([(k,zS)]++rest) hok.2 (by rw[hr2];simp[Rx.post]) (by omega),
   qa hr F (d+1) _ _ hp ⟨k1,k2⟩ (by show cI k<=_;rw[k3];omega) (by omega) hs]
  have e1:((d+1:Nat):Int)+(1-cI ((k,zS):Pc).1)=((d+1:Nat):Int):=by
   show _+(1-cI k)=_
   rw[k3];omega
  have e2:l.length+a.len+1=l.length+(a.len+1):=by omega
  rw[e1,e2]
theorem MG{t:Rx}(hok:t.ok)(hl:t.len<=400):LQ N0 (t.post,())=some ((0,()),()):=by
 have tl:=t.aU
 have h:=MF (r:=t.post) (by omega) t (N0-t.len) 0 [] [] hok (by simp) (by omega)
 rw[show N0-t.len+t.len=N0 by unfold N0;omega]at h
 unfold LQ
 simp only
 rw[decide_eq_false (show ¬(400:Int)<((t.post.length:Nat):Int) by omega),cond_false]
 refine Eq.trans h ?_
 obtain⟨q,hq⟩:∃ q,N0-t.len=q+1:=⟨N0-t.len-1,by unfold N0;omega⟩
 rw[hq,eI]
 unfold chB
 simp only
 have e:((([]:List Pc).length+t.len:Nat):Int)=((t.post.length:Nat):Int):=by rw[tl];simp
 rw[e,decide_eq_false (show ¬((t.post.length:Nat):Int)<((t.post.length:Nat):Int) by omega),cond_false]
 rfl
end
noncomputable section
abbrev EdI:=Int×(Int×(List Int×Bool))
abbrev edI(e:Ed):EdI:=((e.1:Int),((e.2.1:Int),(e.2.2.1,e.2.2.2)))
abbrev NfI:=Int×(List EdI×(Int×Int))
def nf(n:Nat)(E:List Ed):NfI:=((n:Int),(E.map edI,(0,0)))
theorem qb{n:Nat}(hn:n<=100000)(E:List Ed):LR N0 (nf n E,())=some ((((n:Int),((n+1:Nat):Int)),()),(nf (n+2) E,())):=by
 have h:∀ m:Nat,m<=100001->Ih N0 (nf m E,())=some (((m:Int),()),(nf (m+1) E,())):=by
  intro m hm
  have w:IntKind.wrap .i64 (((m+1:Nat):Int)-1)=(m:Int):=by
   have:((m+1:Nat):Int)-1=(m:Int):=by omega
   rw[this];exact bH (by omega)
  unfold Ih nf
  simp only[cY (show m+1<9223372036854775808 by omega),w]
 unfold LR
 simp only[h n (by omega),h (n+1) (by omega),aC]
theorem fB{E:List Ed}(hE:E.length<=100000)(n f l:Nat):rC N0 (nf n E,((f:Int),((l:Int),())))=some ((),(nf n (E++[fE f l]),())):=by
 unfold rC nf
 have c1:((E.map edI).length+([((f:Int),((l:Int),([0,0,0,0],true)))]:List EdI).length)*56<=140737488355328:=by simp;omega
 have c2:(E.map edI).length+([((f:Int),((l:Int),([0,0,0,0],true)))]:List EdI).length<=9223372036854775807:=by simp;omega
 simp only
 rw[if_pos c1,if_pos c2,eB]
 rfl
theorem uE{st0 ch:List (Int×Int)}(hl:(st0++ch).length<=100000){k:Int}(hk:k=((ch.length:Nat):Int))(X:Int×Int):
 IntKind.wrap .i64 ((((st0++ch).length:Nat):Int)-k)=((st0.length:Nat):Int)/\((0:Int)<=0/\(0:Int)<=((st0.length:Nat):Int)/\((st0.length:Nat):Int)<=(((st0++ch).length:Nat):Int))/\cz (st0++ch) 0 ((st0.length:Nat):Int)=st0/\(st0.length+([X]:List (Int×Int)).length)*16<=140737488355328/\st0.length+([X]:List (Int×Int)).length<=9223372036854775807:=by
 rw[ak]at hl
 subst hk
 refine⟨?_,⟨by omega,by omega,by rw[ak];omega⟩,?_,by rw[iq];omega,by rw[iq];omega⟩
 ·have:((((st0++ch).length:Nat):Int)-((ch.length:Nat):Int))=((st0.length:Nat):Int):=by rw[ak];omega
  rw[this];exact bH (by omega)
 ·have:=p6 ([]:List (Int×Int)) st0 ch
  rw[bM,bJ,eC]at this
  exact this
theorem I5{n:Nat}(hn:n<=100000){E:List Ed}(hE:E.length<=10000)(S:List Int){st:List (Int×Int)}(hst:st.length<=100000):
 pQ N0 (nf n E,((1,S),(st,())))=some ((st++[((n:Int),((n+1:Nat):Int))],()),(nf (n+2) (E++[(n,n+1,S,false)]),())):=by
 unfold pQ
 simp only[qb hn,aC]
 refine aV ((nf (n+2) (E++[(n,n+1,S,false)]),(st,())),()) (λK=>?_) ?_
 ·simp only[aL,show decide ((1:Int)=0)=false from rfl,show decide ((1:Int)=1)=true from rfl,decide_true,cond_false,cond_true]
  unfold nf
  have c1:((E.map edI).length+([((n:Int),(((n+1:Nat):Int),(S,false)))]:List EdI).length)*56<=140737488355328:=by simp;omega
  have c2:(E.map edI).length+([((n:Int),(((n+1:Nat):Int),(S,false)))]:List EdI).length<=9223372036854775807:=by simp;omega
  simp only
  rw[if_pos c1,if_pos c2,eB]
  rfl
 ·obtain⟨h1,h2,h3,h4,h5⟩:=uE (st0:=st) (ch:=[]) (by rw[b9];exact hst) (k:=0) rfl ((n:Int),((n+1:Nat):Int))
  rw[b9]at h1 h2 h3
  simp only
  rw[ae (iK (k:=1) (by decide))]
  have e:cI 1=0:=rfl
  simp only[e,h1]
  rw[if_pos h2,h3,if_pos h4,if_pos h5]
theorem I6{n:Nat}(hn:n<=100000){E:List Ed}(hE:E.length<=10000){st:List (Int×Int)}(hst:st.length<=100000):
 pQ N0 (nf n E,((0,zS),(st,())))=some ((st++[((n:Int),((n+1:Nat):Int))],()),(nf (n+2) (E++[fE n (n+1)]),())):=by
 unfold pQ
 simp only[qb hn,aC]
 refine aV ((nf (n+2) (E++[fE n (n+1)]),(st,())),()) (λK=>?_) ?_
 ·rw[decide_true,cond_true,ae (fB (by omega) _ _ _)]
 ·obtain⟨h1,h2,h3,h4,h5⟩:=uE (st0:=st) (ch:=[]) (by rw[b9];exact hst) (k:=0) rfl ((n:Int),((n+1:Nat):Int))
  rw[b9]at h1 h2 h3
  simp only
  rw[ae (iK (k:=0) (by decide))]
  have e:cI 0=0:=rfl
  simp only[e,h1]
  rw[if_pos h2,h3,if_pos h4,if_pos h5]
theorem Av{st0:List (Int×Int)}{a b:Int×Int}(h:st0.length<=100000):IntKind.wrap .i64 ((((st0++[a,b]).length:Nat):Int)-2)=((st0.length:Nat):Int)/\IntKind.wrap .i64 ((((st0++[a,b]).length:Nat):Int)-1)=((st0.length+1:Nat):Int)/\(st0++[a,b])[st0.length]?=some a/\(st0++[a,b])[st0.length+1]?=some b:=by
 have hl:(st0++[a,b]).length=st0.length+2:=by rw[ak];rfl
 refine⟨?_,?_,by simp,by simp⟩
 ·have:((((st0++[a,b]).length:Nat):Int)-2)=((st0.length:Nat):Int):=by omega
  rw[this];exact bH (by omega)
 ·have:((((st0++[a,b]).length:Nat):Int)-1)=((st0.length+1:Nat):Int):=by omega
  rw[this];exact bH (by omega)
theorem I7{n:Nat}(hn:n<=100000){E:List Ed}(hE:E.length<=10000){st0:List (Int×Int)}(hst:st0.length<=90000)(f1 l1 f2 l2:Nat):
 pQ N0 (nf n E,((2,zS),(st0++[((f1:Int),(l1:Int)),((f2:Int),(l2:Int))],())))=some ((st0++[((n:Int),((n+1:Nat):Int))],()),(nf (n+2) (E++[fE n f1,fE l1 f2,fE l2 (n+1)]),())):=by
 obtain⟨g1,g2,g3,g4⟩:=Av (st0:=st0) (a:=((f1:Int),(l1:Int))) (b:=((f2:Int),(l2:Int))) (by omega)
 unfold pQ
 simp only[qb hn,aC]
 refine aV ((nf (n+2) (E++[fE n f1,fE l1 f2,fE l2 (n+1)]),(st0++[((f1:Int),(l1:Int)),((f2:Int),(l2:Int))],())),()) (λK=>?_) ?_
 ·have n0:(0:Int)<=((st0.length:Nat):Int):=by omega
  have n1:(0:Int)<=((st0.length+1:Nat):Int):=by omega
  simp only[aL,show decide ((2:Int)=0)=false from rfl,show decide ((2:Int)=1)=false from rfl,decide_true,cond_false,cond_true,g1,g2]
  rw[if_pos n0,aa,g3]
  simp only
  rw[if_pos n1,aa,g4]
  simp only
  rw[ae (fB (by omega) _ _ _)]
  simp only
  rw[ae (fB (by simp;omega) _ _ _)]
  simp only
  rw[ae (fB (by simp;omega) _ _ _)]
  simp only[aM,dS,bM]
 ·obtain⟨h1,h2,h3,h4,h5⟩:=uE (st0:=st0) (ch:=[((f1:Int),(l1:Int)),((f2:Int),(l2:Int))]) (by rw[ak];show st0.length+2<=_;omega) (k:=2) rfl ((n:Int),((n+1:Nat):Int))
  simp only
  rw[ae (iK (k:=2) (by decide))]
  have e:cI 2=2:=rfl
  simp only[e,h1]
  rw[if_pos h2,h3,if_pos h4,if_pos h5]
theorem I8{n:Nat}(hn:n<=100000){E:List Ed}(hE:E.length<=10000){st0:List (Int×Int)}(hst:st0.length<=90000)(f1 l1 f2 l2:Nat):
 pQ N0 (nf n E,((3,zS),(st0++[((f1:Int),(l1:Int)),((f2:Int),(l2:Int))],())))=some ((st0++[((n:Int),((n+1:Nat):Int))],()),(nf (n+2) (E++[fE n f1,fE l1 (n+1),fE n f2,fE l2 (n+1)]),())):=by
 obtain⟨g1,g2,g3,g4⟩:=Av (st0:=st0) (a:=((f1:Int),(l1:Int))) (b:=((f2:Int),(l2:Int))) (by omega)
 have hl:(st0++[((f1:Int),(l1:Int)),((f2:Int),(l2:Int))]).length=st0.length+2:=by rw[ak];rfl
 unfold pQ
 simp only[qb hn,aC]
 refine aV ((nf (n+2) (E++[fE n f1,fE l1 (n+1),fE n f2,fE l2 (n+1)]),(st0++[((f1:Int),(l1:Int)),((f2:Int),(l2:Int))],())),()) (λK=>?_) ?_
 ·simp only[aL,show decide ((3:Int)=0)=false from rfl,show decide ((3:Int)=1)=false from rfl,show decide ((3:Int)=2)=false from rfl,decide_true,cond_false,cond_true,g1]
  rw[if_pos ⟨by omega,by omega,by omega⟩]
  refine aZ (λm x q=>((m=2/\x=((nf (n+2) E,(st0++[((f1:Int),(l1:Int)),((f2:Int),(l2:Int))],())),((0:Int),())))\/(m=1/\x=((nf (n+2) (E++[fE n f1,fE l1 (n+1)]),(st0++[((f1:Int),(l1:Int)),((f2:Int),(l2:Int))],())),((1:Int),())))\/(m=0/\x=((nf (n+2) (E++[fE n f1,fE l1 (n+1),fE n f2,fE l2 (n+1)]),(st0++[((f1:Int),(l1:Int)),((f2:Int),(l2:Int))],())),((2:Int),()))))/\q=K ((nf (n+2) (E++[fE n f1,fE l1 (n+1),fE n f2,fE l2 (n+1)]),(st0++[((f1:Int),(l1:Int)),((f2:Int),(l2:Int))],())),())) ?_ N0 2 _ _ (by unfold N0;omega) ⟨.inl ⟨rfl,rfl⟩,rfl⟩
  have evL:si ((st0.length:Nat):Int) (((st0++[((f1:Int),(l1:Int)),((f2:Int),(l2:Int))]).length:Nat):Int)=2:=by unfold si;omega
  rintro m x q ⟨hx,rfl⟩ k hk
  rcases hx with⟨rfl,rfl⟩|⟨rfl,rfl⟩|⟨rfl,rfl⟩
  ·have e1:yW 0 ((st0.length:Nat):Int) (((st0++[((f1:Int),(l1:Int)),((f2:Int),(l2:Int))]).length:Nat):Int)=true:=by unfold yW;simp;omega
   have e2:mJ ((st0.length:Nat):Int) 0=((st0.length:Nat):Int):=by unfold mJ;simp
   have n0:(0:Int)<=((st0.length:Nat):Int):=by omega
   have w1:IntKind.wrap .i64 ((0:Int)+1)=1:=bC (by omega) (by omega)
   simp only[evL,e1,e2,show decide ((0:Int)<2)=true from rfl,cond_true]
   rw[if_pos n0,aa,g3]
   simp only
   rw[ae (fB (by omega) _ _ _)]
   simp only
   rw[ae (fB (by simp;omega) _ _ _),w1,aM]
   exact hk 1 _ _ (by omega) ⟨.inr (.inl ⟨rfl,rfl⟩),rfl⟩
  ·have e1:yW 1 ((st0.length:Nat):Int) (((st0++[((f1:Int),(l1:Int)),((f2:Int),(l2:Int))]).length:Nat):Int)=true:=by unfold yW;simp;omega
   have e2:mJ ((st0.length:Nat):Int) 1=((st0.length+1:Nat):Int):=by unfold mJ;simp
   have n0:(0:Int)<=((st0.length+1:Nat):Int):=by omega
   have w1:IntKind.wrap .i64 ((1:Int)+1)=2:=bC (by omega) (by omega)
   simp only[evL,e1,e2,show decide ((1:Int)<2)=true from rfl,cond_true]
   rw[if_pos n0,aa,g4]
   simp only
   rw[ae (fB (by simp;omega) _ _ _)]
   simp only
   rw[ae (fB (by simp;omega) _ _ _),w1]
   simp only[aM,dS,bM]
   exact hk 0 _ _ (by omega) ⟨.inr (.inr ⟨rfl,rfl⟩),rfl⟩
  ·simp only[evL,show decide ((2:Int)<2)=false from rfl,cond_false]
 ·obtain⟨h1,h2,h3,h4,h5⟩:=uE (st0:=st0) (ch:=[((f1:Int),(l1:Int)),((f2:Int),(l2:Int))]) (by rw[ak];show st0.length+2<=_;omega) (k:=2) rfl ((n:Int),((n+1:Nat):Int))
  simp only
  rw[ae (iK (k:=3) (by decide))]
  have e:cI 3=2:=rfl
  simp only[e,h1]
  rw[if_pos h2,h3,if_pos h4,if_pos h5]
theorem I9{n:Nat}(hn:n<=100000){E:List Ed}(hE:E.length<=10000){st0:List (Int×Int)}(hst:st0.length<=90000){k:Int}(hk:k=4\/k=5\/k=6)(f1 l1:Nat):
 pQ N0 (nf n E,((k,zS),(st0++[((f1:Int),(l1:Int))],())))=some ((st0++[((n:Int),((n+1:Nat):Int))],()),(nf (n+2) (E++([fE n f1,fE l1 (n+1)]++(if k=6 then []else [fE l1 f1])++(if k=5 then []else [fE n (n+1)]))),())):=by
 have hl:(st0++[((f1:Int),(l1:Int))]).length=st0.length+1:=by rw[ak];rfl
 have g1:IntKind.wrap .i64 ((((st0++[((f1:Int),(l1:Int))]).length:Nat):Int)-1)=((st0.length:Nat):Int):=by
  have:((((st0++[((f1:Int),(l1:Int))]).length:Nat):Int)-1)=((st0.length:Nat):Int):=by omega
  rw[this];exact bH (by omega)
 have g2:(st0++[((f1:Int),(l1:Int))])[st0.length]?=some ((f1:Int),(l1:Int)):=by simp
 have n0:(0:Int)<=((st0.length:Nat):Int):=by omega
 unfold pQ
 simp only[qb hn,aC]
 refine aV ((nf (n+2) (E++([fE n f1,fE l1 (n+1)]++(if k=6 then []else [fE l1 f1])++(if k=5 then []else [fE n (n+1)]))),(st0++[((f1:Int),(l1:Int))],())),()) (λK=>?_) ?_
 ·have q0:decide (k=0)=false:=decide_eq_false (by omega)
  have q1:decide (k=1)=false:=decide_eq_false (by omega)
  have q2:decide (k=2)=false:=decide_eq_false (by omega)
  have q3:decide (k=3)=false:=decide_eq_false (by omega)
  simp only[aL,q0,q1,q2,q3,cond_false,g1]
  rw[if_pos n0,aa,g2]
  simp only
  rw[ae (fB (by omega) _ _ _)]
  simp only
  rw[ae (fB (by simp;omega) _ _ _)]
  simp only
  rcases hk with rfl|rfl|rfl
  ·simp only[show decide ((4:Int)=6)=false from rfl,show decide ((4:Int)=5)=false from rfl,aJ,cond_true]
   rw[ae (fB (by simp;omega) _ _ _)]
   simp only
   rw[ae (fB (by simp;omega) _ _ _)]
   simp
  ·simp only[show decide ((5:Int)=6)=false from rfl,decide_true,aJ,aB,cond_true,cond_false]
   rw[ae (fB (by simp;omega) _ _ _)]
   simp
  ·simp only[show decide ((6:Int)=5)=false from rfl,decide_true,aJ,aB,cond_true,cond_false]
   rw[ae (fB (by simp;omega) _ _ _)]
   simp
 ·obtain⟨h1,h2,h3,h4,h5⟩:=uE (st0:=st0) (ch:=[((f1:Int),(l1:Int))]) (by omega) (k:=1) rfl ((n:Int),((n+1:Nat):Int))
  simp only
  have e:cI k=1:=by rcases hk with rfl|rfl|rfl <;> rfl
  rw[ae (iK (k:=k) (by omega))]
  simp only[e,h1]
  rw[if_pos h2,h3,if_pos h4,if_pos h5]
end
noncomputable section
theorem iL:∀ (t:Rx) (n:Nat),(t.ay n).length<=4*t.len:=by
 intro t
 induction t with
 |eps=>intro n;simp[Rx.ay,Rx.len]
 |set S=>intro n;simp[Rx.ay,Rx.len]
 |cat a b iha ihb=>
  intro n
  have h1:=iha n
  have h2:=ihb (n+2*a.len)
  simp only[Rx.ay,Rx.len,ak,aO,bJ]
  omega
 |alt a b iha ihb=>
  intro n
  have h1:=iha n
  have h2:=ihb (n+2*a.len)
  simp only[Rx.ay,Rx.len,ak,aO,bJ]
  omega
 |rep k a ih=>
  intro n
  have h1:=ih n
  simp only[Rx.ay,Rx.len,ak,aO,bJ]
  split <;> split <;> simp <;> omega
abbrev OfS:=(NfI×(NfI×Unit))×(List (Int×Int)×(Int×Unit))
abbrev OfR:=(NfI×(Int×Unit))×Unit
def stB(r:List Pc):OfS->(OfS->Option OfR)->Option OfR:=λv4 v5=>
 (bif decide (v4.2.2.1<((r.length:Nat):Int))then(if 0<=v4.2.2.1 then(match r[(v4.2.2.1).toNat]? with|some v6=>(aj (pQ N0 (v4.1.2.1,(v6,(v4.2.1,())))) λv7=>v5 ((v4.1.1,(v7.2.1,())),(v7.1.1,(IntKind.wrap .i64 (v4.2.2.1+1),()))))|none=>none)else none)
 else(if(0:Int)<=0 then(match v4.2.1[((0:Int)).toNat]? with|some v8=>(if(0:Int)<=0 then(match v4.2.1[((0:Int)).toNat]? with|some v9=>some (((v4.1.2.1.1,(v4.1.2.1.2.1,(v8.1,v9.2))),(0,())),())|none=>none)else none)|none=>none)else none))
def pr(f l:Nat):Int×Int:=((f:Int),(l:Int))
theorem qc{r:List Pc}(hr:r.length<=100000)(F i:Nat)(p:Pc)(hp:r[i]?=some p){Z M M':NfI}{st st':List (Int×Int)}(h:pQ N0 (M,(p,(st,())))=some ((st',()),(M',()))):
 aF (stB r) (F+1) ((Z,(M,())),(st,((i:Int),())))=aF (stB r) F ((Z,(M',())),(st',(((i+1:Nat):Int),()))):=by
 have hi:i<r.length:=by
  rcases ap i r.length with h|h
  ·exact h
  ·rw[bx h]at hp;cases hp
 rw[eI]
 unfold stB
 simp only
 have n0:(0:Int)<=(i:Int):=by omega
 rw[decide_eq_true (show(i:Int)<((r.length:Nat):Int) by omega),cond_true,if_pos n0,aa,hp]
 simp only
 rw[ae h]
 simp only[cY (show i+1<9223372036854775808 by omega)]
theorem MH{r:List Pc}(hr:r.length<=100000){Z:NfI}:∀ (t:Rx) (F n:Nat) (E:List Ed) (st:List (Int×Int)) (l rest:List Pc),t.ok->r=l++t.post++rest->n+2*t.len<=100000->E.length+4*t.len<=10000->st.length+t.len<=90000->
 aF (stB r) (F+t.len) ((Z,(nf n E,())),(st,((l.length:Int),())))=aF (stB r) F ((Z,(nf (n+2*t.len) (E++t.ay n),())),(st++[pr (t.fst n) (t.lst n)],(((l.length+t.len:Nat):Int),()))):=by
 intro t
 induction t with
 |eps=>
  intro F n E st l rest _ hr2 hn hE hst
  simp only[Rx.len]at hn hE hst |-
  have hp:r[l.length]?=some (0,zS):=by rw[hr2];simp[Rx.post]
  rw[qc hr F l.length _ hp (I6 (by omega) (by omega) (by omega))]
  have e1:Rx.fst .eps n=n:=by simp only[Rx.fst,Rx.len];omega
  have e2:Rx.lst .eps n=n+1:=by simp only[Rx.lst,Rx.len];omega
  rw[e1,e2]
  rfl
 |set S=>
  intro F n E st l rest _ hr2 hn hE hst
  simp only[Rx.len]at hn hE hst |-
  have hp:r[l.length]?=some (1,S):=by rw[hr2];simp[Rx.post]
  rw[qc hr F l.length _ hp (I5 (by omega) (by omega) S (by omega))]
  have e1:Rx.fst (.set S) n=n:=by simp only[Rx.fst,Rx.len];omega
  have e2:Rx.lst (.set S) n=n+1:=by simp only[Rx.lst,Rx.len];omega
  rw[e1,e2]
  rfl
 |cat a b iha ihb=>
  intro F n E st l rest hok hr2 hn hE hst
  simp only[Rx.len]at hn hE hst |-
  have pa:=a.bL
  have pb:=b.bL
  have la:=iL a n
  have lb:=iL b (n+2*a.len)
  have hp:r[l.length+a.len+b.len]?=some (2,zS):=by
   rw[hr2]
   simp[Rx.post,<-a.aU,<-b.aU,cE]
  rw[show F+(a.len+b.len+1)=(F+1+b.len)+a.len by omega,iha (F+1+b.len) n E st l (b.post++[(2,zS)]++rest) hok.1 (by rw[hr2];simp[Rx.post]) (by omega) (by omega) (by omega)]
  have hb:=ihb (F+1) (n+2*a.len) (E++a.ay n) (st++[pr (a.fst n) (a.lst n)]) (l++a.post) ([(2,zS)]++rest) hok.2 (by rw[hr2];simp[Rx.post]) (by omega) (by rw[ak];omega) (by rw[ak,iq];omega)
  rw[ak,a.aU]at hb
  have e0:st++[pr (a.fst n) (a.lst n)]++[pr (b.fst (n+2*a.len)) (b.lst (n+2*a.len))]=st++[(((a.fst n:Nat):Int),((a.lst n:Nat):Int)),(((b.fst (n+2*a.len):Nat):Int),((b.lst (n+2*a.len):Nat):Int))]:=by
   rw[aM];rfl
  rw[e0]at hb
  rw[hb,qc hr F _ _ hp (I7 (by omega) (by rw[ak,ak];omega) (by omega) _ _ _ _)]
  have e1:(Rx.cat a b).fst n=n+2*a.len+2*b.len:=by simp only[Rx.fst,Rx.len];omega
  have e2:(Rx.cat a b).lst n=n+2*a.len+2*b.len+1:=by simp only[Rx.lst,Rx.len];omega
  have e3:E++a.ay n++b.ay (n+2*a.len)++[fE (n+2*a.len+2*b.len) (a.fst n),fE (a.lst n) (b.fst (n+2*a.len)),fE (b.lst (n+2*a.len)) (n+2*a.len+2*b.len+1)]=E++(Rx.cat a b).ay n:=by
   simp only[Rx.ay,aM]
   rw[show n+2*(a.len+b.len)=n+2*a.len+2*b.len by omega]
  rw[e1,e2,e3,show n+2*a.len+2*b.len+2=n+2*(a.len+b.len+1) by omega,show l.length+a.len+b.len+1=l.length+(a.len+b.len+1) by omega]
  rfl
 |alt a b iha ihb=>
  intro F n E st l rest hok hr2 hn hE hst
  simp only[Rx.len]at hn hE hst |-
  have pa:=a.bL
  have pb:=b.bL
  have la:=iL a n
  have lb:=iL b (n+2*a.len)
  have hp:r[l.length+a.len+b.len]?=some (3,zS):=by
   rw[hr2]
   simp[Rx.post,<-a.aU,<-b.aU,cE]
  rw[show F+(a.len+b.len+1)=(F+1+b.len)+a.len by omega,iha (F+1+b.len) n E st l (b.post++[(3,zS)]++rest) hok.1 (by rw[hr2];simp[Rx.post]) (by omega) (by omega) (by omega)]
  have hb:=ihb (F+1) (n+2*a.len) (E++a.ay n) (st++[pr (a.fst n) (a.lst n)]) (l++a.post) ([(3,zS)]++rest) hok.2 (by rw[hr2];simp[Rx.post]) (by omega) (by rw[ak];omega) (by rw[ak,iq];omega)
  rw[ak,a.aU]at hb
  have e0:st++[pr (a.fst n) (a.lst n)]++[pr (b.fst (n+2*a.len)) (b.lst (n+2*a.len))]=st++[(((a.fst n:Nat):Int),((a.lst n:Nat):Int)),(((b.fst (n+2*a.len):Nat):Int),((b.lst (n+2*a.len):Nat):Int))]:=by
   rw[aM];rfl
  rw[e0]at hb
  rw[hb,qc hr F _ _ hp (I8 (by omega) (by rw[ak,ak];omega) (by omega) _ _ _ _)]
  have e1:(Rx.alt a b).fst n=n+2*a.len+2*b.len:=by simp only[Rx.fst,Rx.len];omega
  have e2:(Rx.alt a b).lst n=n+2*a.len+2*b.len+1:=by simp only[Rx.lst,Rx.len];omega
  have e3:E++a.ay n++b.ay (n+2*a.len)++[fE (n+2*a.len+2*b.len) (a.fst n),fE (a.lst n) (n+2*a.len+2*b.len+1),fE (n+2*a.len+2*b.len) (b.fst (n+2*a.len)),fE (b.lst (n+2*a.len)) (n+2*a.len+2*b.len+1)]=E++(Rx.alt a b).ay n:=by
   simp only[Rx.ay,aM]
   rw[show n+2*(a.len+b.len)=n+2*a.len+2*b.len by omega]
  rw[e1,e2,e3,show n+2*a.len+2*b.len+2=n+2*(a.len+b.len+1) by omega,show l.length+a.len+b.len+1=l.length+(a.len+b.len+1) by omega]
  rfl
 |rep k a iha=>
  intro F n E st l rest hok hr2 hn hE hst
  simp only[Rx.len]at hn hE hst |-
  have la:=iL a n
  have hp:r[l.length+a.len]?=some (k,zS):=by
   rw[hr2]
   simp[Rx.post,<-a.aU]
  rw[show F+(a.len+1)=(F+1)+a.len by omega,iha (F+1) n E st l ([(k,zS)]++rest) hok.2 (by rw[hr2];simp[Rx.post]) (by omega) (by omega) (by omega),show st++[pr (a.fst n) (a.lst n)]=st++[(((a.fst n:Nat):Int),((a.lst n:Nat):Int))]from rfl,
   qc hr F _ _ hp (I9 (by omega) (by rw[ak];omega) (by omega) hok.1 _ _)]
  have e1:(Rx.rep k a).fst n=n+2*a.len:=by simp only[Rx.fst,Rx.len];omega
  have e2:(Rx.rep k a).lst n=n+2*a.len+1:=by simp only[Rx.lst,Rx.len];omega
  have e3:E++a.ay n++([fE (n+2*a.len) (a.fst n),fE (a.lst n) (n+2*a.len+1)]++(if k=6 then []else [fE (a.lst n) (a.fst n)])++(if k=5 then []else [fE (n+2*a.len) (n+2*a.len+1)]))=E++(Rx.rep k a).ay n:=by
   simp only[Rx.ay,aM]
  rw[e1,e2,e3,show n+2*a.len+2=n+2*(a.len+1) by omega,show l.length+a.len+1=l.length+(a.len+1) by omega]
  rfl
def nfT(t:Rx):NfI:=(((2*t.len:Nat):Int),((t.ay 0).map edI,(((t.fst 0:Nat):Int),((t.lst 0:Nat):Int))))
theorem MI{t:Rx}(hok:t.ok)(hl:t.len<=400):LS N0 (t.post,())=some ((nfT t,(0,())),()):=by
 have tl:=t.aU
 have h:=MH (r:=t.post) (by omega) (Z:=nf 0 []) t (N0-t.len) 0 [] [] [] [] hok (by simp) (by omega) (by simp;omega) (by simp;omega)
 rw[show N0-t.len+t.len=N0 by unfold N0;omega]at h
 unfold LS
 simp only
 rw[ae (MG hok hl)]
 simp only
 rw[decide_true,aB,cond_false]
 refine Eq.trans h ?_
 obtain⟨q,hq⟩:∃ q,N0-t.len=q+1:=⟨N0-t.len-1,by unfold N0;omega⟩
 rw[hq,eI]
 unfold stB
 simp only
 have e:((([]:List Pc).length+t.len:Nat):Int)=((t.post.length:Nat):Int):=by rw[tl];simp
 rw[e,decide_eq_false (show ¬((t.post.length:Nat):Int)<((t.post.length:Nat):Int) by omega),cond_false,if_pos z0,bM,Ar]
 simp only
 rw[if_pos z0,bM,eC]
 rfl
end
noncomputable section
def bsN(n:Nat)(f:Nat->Bool):List Bool:=(List.range n).map f
theorem hJ(n:Nat)(f:Nat->Bool):(bsN n f).length=n:=by simp[bsN]
theorem hP{n:Nat}(f:Nat->Bool){i:Nat}(h:i<n):(bsN n f)[i]?=some (f i):=by
 unfold bsN
 rw[bX,dR h]
 rfl
theorem x7{n:Nat}(f:Nat->Bool){i:Nat}(h:i<n):(bsN n f).set i true=bsN n (λx=>f x||decide (x=i)):=by
 apply eA
 intro j
 rw[jB]
 by_cases hj:j<n
 ·have g1:=hP (n:=n) (λx=>f x||decide (x=i)) hj
  have g2:=hP (n:=n) f hj
  rw[g1,g2]
  by_cases e:i=j
  ·subst e
   rw[if_pos rfl,if_pos (by rw[hJ];exact h)]
   simp
  ·rw[if_neg e]
   have:¬j=i:=λh=>e h.symm
   simp[this]
 ·have e1:(bsN n λx=>f x||decide (x=i))[j]?=none:=bx (by rw[hJ];omega)
  have e2:(bsN n f)[j]?=none:=bx (by rw[hJ];omega)
  rw[e1,e2,if_neg (by omega)]
def cnt(f:Nat->Bool):Nat->Nat
 |0=>0
 |n+1=>(if f n then 0 else 1)+cnt f n
theorem cnt_mono{f g:Nat->Bool}:∀ n,(∀ i,i<n->f i=true->g i=true)->cnt g n<=cnt f n:=by
 intro n
 induction n with
 |zero=>intro _;exact au _
 |succ n ih=>
  intro h
  have h1:=ih λi hi=>h i (by omega)
  have h2:=h n (by omega)
  simp only[cnt]
  cases hf:f n
  ·cases hg:g n <;> simp <;> omega
  ·rw[h2 hf];simp;exact h1
theorem cnt_lt{f g:Nat->Bool}{q:Nat}:∀ n,(∀ i,i<n->f i=true->g i=true)->q<n->f q=false->g q=true->cnt g n<cnt f n:=by
 intro n
 induction n with
 |zero=>intro _ h;omega
 |succ n ih=>
  intro h hq hf hg
  simp only[cnt]
  by_cases e:q=n
  ·subst e
   have h1:=cnt_mono q λi hi=>h i (by omega)
   rw[hf,hg]
   simp
   omega
  ·have h1:=ih (λi hi=>h i (by omega)) (by omega) hf hg
   have h2:=h n (by omega)
   cases hf2:f n
   ·cases hg2:g n <;> simp <;> omega
   ·rw[h2 hf2];simp;exact h1
def mq(E:List Ed)(f:Nat->Bool):Prop:=∀ e∈E,e.2.2.2=true->f e.1=true->f e.2.1=true
def InE(n:Nat)(E:List Ed):Prop:=∀ e∈E,e.1<n/\e.2.1<n
def leB(f g:Nat->Bool):Prop:=∀ i,f i=true->g i=true
def gQ(E:List Ed)(f g:Nat->Bool):Prop:=leB f g/\mq E g/\∀ D,mq E D->leB f D->leB g D
theorem DH{n:Nat}(hn:n<=100000){E:List Ed}(hE:E.length<=100000)(hin:InE n E)(X:Int×Int)(f0:Nat->Bool):
 ∃ g,Ii N0 (((n:Int),(E.map edI,X)),(bsN n f0,()))=some ((bsN n g,()),())/\gQ E f0 g:=by
 unfold Ii
 simp only
 have hcp:cpL (List.replicate ((n:Int)).toNat false) (bsN n f0)=bsN n f0:=by
  unfold cpL
  simp[hJ]
  exact bZ (by rw[hJ];exact au _)
 rw[if_pos (show(0:Int)<=(n:Int)/\(n:Int)<=(n:Int) by omega),if_pos (show((n:Int)).toNat*1<=140737488355328 by rw[aa];omega),hcp]
 refine eu (λm x=>∃ (f:Nat->Bool) (c:Bool),x=((bsN n f,()),(c,()))/\leB f0 f/\(∀ D,mq E D->leB f0 D->leB f D)/\(c=false->mq E f)/\m=cnt f n+(if c=true then 1 else 0)) (λz=>∃ g,z=some ((bsN n g,()),())/\gQ E f0 g) ?_ N0 (cnt f0 n+1) _ ?_ ⟨f0,true,rfl,λi h=>h,λD _ h=>h,(λh=>by cases h),rfl⟩
 ·rintro m x ⟨f,c,rfl,h1,h2,h3,hm⟩ k hk
  simp only
  cases c
  ·rw[cond_false]
   exact⟨f,rfl,h1,h3 rfl,h2⟩
  ·rw[cond_true]
   simp only[if_true]at hm
   refine eu (λm2 x=>∃ (j:Nat) (g:Nat->Bool) (c:Bool),x=((bsN n g,()),(c,((j:Int),())))/\m2+j=E.length/\leB f g/\(∀ D,mq E D->leB f0 D->leB g D)/\(c=false->g=f/\∀ (i:Nat) e,i<j->E[i]?=some e->e.2.2.2=true->f e.1=true->f e.2.1=true)/\(c=true->cnt g n<cnt f n)) (λz=>∃ g,z=some ((bsN n g,()),())/\gQ E f0 g) ?_ N0 E.length _ (by unfold N0;omega) ⟨0,f,false,rfl,rfl,λi h=>h,h2,λ_=>⟨rfl,λi e hi=>by omega⟩,(λh=>by cases h)⟩
   rintro m2 x ⟨j,g,c,rfl,hmj,q1,q2,q3,q4⟩ k2 hk2
   simp only
   rcases ap j E.length with hj|hj
   ·have n0:(0:Int)<=(j:Int):=by omega
    have hj2:(E.map edI)[j]?=some (edI E[j]):=by rw[bX,ah hj];rfl
    have lv:E[j]∈E:=bp hj
    obtain⟨r1,r2⟩:=hin _ lv
    have eg:E[j]?=some E[j]:=ah hj
    generalize E[j]=e at hj2 lv r1 r2 eg
    rw[decide_eq_true (show(j:Int)<(((E.map edI).length:Nat):Int) by rw[bR];omega),cond_true,if_pos n0,aa,hj2]
    have n1:(0:Int)<=(e.1:Int):=by omega
    have n2:(0:Int)<=(e.2.1:Int):=by omega
    have w1:IntKind.wrap .i64 ((j:Int)+1)=((j+1:Nat):Int):=cY (by omega)
    simp only[edI,w1]
    refine ek (P:=λz=>∃ g,z=some ((bsN n g,()),())/\gQ E f0 g) ((bsN n g,()),(e.2.2.2&&(g e.1&&!g e.2.1),())) (λK=>?_) ?_
    ·cases e.2.2.2
     ·rfl
     ·rw[cond_true,if_pos n1,aa,hP g r1]
      simp only
      cases g e.1
      ·rfl
      ·rw[cond_true,if_pos n2,aa,hP g r2]
       rfl
    ·simp only
     refine ek (P:=λz=>∃ g,z=some ((bsN n g,()),())/\gQ E f0 g) ((bsN n (λx=>g x||(decide (x=e.2.1)&&(e.2.2.2&&(g e.1&&!g e.2.1)))),()),((c||(e.2.2.2&&(g e.1&&!g e.2.1))),())) (λK=>?_) ?_
     ·cases hb:(e.2.2.2&&(g e.1&&!g e.2.1))
      ·rw[cond_false]
       simp
      ·rw[cond_true,if_pos n2,aa,hP g r2]
       simp only
       rw[if_pos n2]
       rw[x7 g r2]
       simp
     ·simp only
      refine hk2 (m2-1) _ (by omega) ⟨j+1,_,_,rfl,by omega,?_,?_,?_,?_⟩
      ·intro i hi
       show(g i||_)=true
       rw[q1 i hi];rfl
      ·intro D hD1 hD2 i hi
       rw[aG,ag,decide_eq_true_eq,ag,ag]at hi
       rcases hi with hi|⟨rfl,h4,h5,_⟩
       ·exact q2 D hD1 hD2 i hi
       ·exact hD1 e lv h4 (q2 D hD1 hD2 _ h5)
      ·intro hc
       rw[eO]at hc
       obtain⟨hc1,hc2⟩:=hc
       obtain⟨rfl,q6⟩:=q3 hc1
       refine⟨?_,?_⟩
       ·funext x
        rw[hc2];simp
       ·intro i e2 hi he2 DI hp
        by_cases hij:i=j
        ·subst hij
         rw[eg]at he2
         injection he2 with he2
         subst he2
         rw[DI,hp]at hc2
         simpa using hc2
        ·exact q6 i e2 (by omega) he2 DI hp
      ·intro hc
       cases hb:(e.2.2.2&&(g e.1&&!g e.2.1))
       ·rw[hb,jD]at hc
        refine nU (cnt_mono n λi _ h=>?_) (q4 hc)
        rw[h];rfl
       ·have hb2:=hb
        rw[ag,ag,bu]at hb2
        have hlt:cnt (λx=>g x||(decide (x=e.2.1)&&true)) n<cnt g n:=cnt_lt (q:=e.2.1) n (λi _ h=>by simp[h]) r2 hb2.2.2 (by simp)
        have:cnt g n<=cnt f n:=cnt_mono n λi _ h=>q1 i h
        omega
   ·rw[decide_eq_false (show ¬(j:Int)<(((E.map edI).length:Nat):Int) by rw[bR];omega),cond_false]
    refine hk (cnt g n+(if c=true then 1 else 0)) _ ?_ ⟨g,c,rfl,λi h=>q1 i (h1 i h),q2,?_,rfl⟩
    ·have:cnt g n<=cnt f n:=cnt_mono n λi _ h=>q1 i h
     cases c
     ·simp;omega
     ·have:=q4 rfl
      simp;omega
    ·intro hc
     obtain⟨rfl,q6⟩:=q3 hc
     intro e he DI hp
     obtain⟨i,hi,hie⟩:=List.getElem_of_mem he
     exact q6 i e (by omega) (by rw[ah hi,hie]) DI hp
 ·have:∀ n,cnt f0 n<=n:=by
   intro n
   induction n with
   |zero=>exact au _
   |succ n ih=>simp only[cnt];split <;> omega
  have:=this n
  unfold N0
  omega
end
noncomputable section
theorem wI(t:Rx):InE (2*t.len) (t.ay 0):=by
 intro e he
 obtain⟨h1,h2,h3,h4⟩:=t.dN 0 e he
 omega
theorem MJ{n:Nat}(hn:n<=100000){E:List Ed}(hE:E.length<=100000)(hin:InE n E){a b:Nat}(ha:a<n)(hb:b<n):
 FU N0 (((n:Int),(E.map edI,((a:Int),(b:Int)))),())=some ((true,()),()):=by
 unfold FU
 simp only
 refine aV ((),(false,())) (λK=>?_) ?_
 ·rw[decide_eq_false (show ¬(a:Int)<0 by omega),cond_false,decide_eq_false (show ¬(n:Int)<=(a:Int) by omega),cond_false,decide_eq_false (show ¬(b:Int)<0 by omega),cond_false,decide_eq_false (show ¬(n:Int)<=(b:Int) by omega)]
 ·simp only
  rw[cond_false]
  refine aZ (λm x q=>∃ j:Nat,x=((),((j:Int),()))/\m+j=E.length/\q=some ((true,()),())) ?_ N0 E.length _ _ (by unfold N0;omega) ⟨0,rfl,rfl,rfl⟩
  rintro m x q ⟨j,rfl,hm,rfl⟩ k hk
  simp only
  rcases ap j E.length with hj|hj
  ·have n0:(0:Int)<=(j:Int):=by omega
   have hj2:(E.map edI)[j]?=some (edI E[j]):=by rw[bX,ah hj];rfl
   obtain⟨r1,r2⟩:=hin _ (bp hj)
   generalize E[j]=e at hj2 r1 r2
   rw[decide_eq_true (show(j:Int)<(((E.map edI).length:Nat):Int) by rw[bR];omega),cond_true,if_pos n0,aa,hj2]
   simp only
   refine aV ((),(false,())) (λK=>?_) ?_
   ·rw[decide_eq_false (show ¬(e.1:Int)<0 by omega),cond_false,decide_eq_false (show ¬(n:Int)<=(e.1:Int) by omega),cond_false,decide_eq_false (show ¬(e.2.1:Int)<0 by omega),cond_false,decide_eq_false (show ¬(n:Int)<=(e.2.1:Int) by omega)]
   ·simp only
    rw[cond_false,cY (by omega)]
    exact hk (m-1) _ _ (by omega) ⟨j+1,rfl,by omega,rfl⟩
  ·rw[decide_eq_false (show ¬(j:Int)<(((E.map edI).length:Nat):Int) by rw[bR];omega),cond_false]
theorem Aw{t:Rx}(hl:t.len<=400):FU N0 (nfT t,())=some ((true,()),()):=by
 have h1:=t.pc 0
 have h2:=t.kE 0
 have h3:=iL t 0
 exact MJ (n:=2*t.len) (by omega) (by omega) (wI t) (by omega) (by omega)
def hY(E:List Ed):List (List Int):=(E.filter λe=>!e.2.2.2).map λe=>e.2.2.1
theorem wJ(E:List Ed):(hY E).length<=E.length:=by
 unfold hY
 rw[bR]
 exact List.length_filter_le _ _
theorem MK{n:Nat}{E:List Ed}(hE:E.length<=100000)(X:Int×Int):LU N0 (((n:Int),(E.map edI,X)),())=some ((hY E,()),()):=by
 unfold LU
 simp only
 refine aZ (λm x q=>∃ j:Nat,x=((),(hY (E.take j),((j:Int),())))/\m+j=E.length/\q=some ((hY E,()),())) ?_ N0 E.length _ _ (by unfold N0;omega) ⟨0,rfl,rfl,rfl⟩
 rintro m x q ⟨j,rfl,hm,rfl⟩ k hk
 simp only
 rcases ap j E.length with hj|hj
 ·have n0:(0:Int)<=(j:Int):=by omega
  have hj2:(E.map edI)[j]?=some (edI E[j]):=by rw[bX,ah hj];rfl
  have htk:E.take (j+1)=E.take j++[E[j]]:=by rw[jA,ah hj];rfl
  have hse:hY (E.take (j+1))=hY (E.take j)++hY [E[j]]:=by
   rw[htk];unfold hY;rw[List.filter_append,eB]
  have hlen:(hY (E.take j)).length<=j:=bG (wJ _) (by rw[aK];omega)
  generalize E[j]=e at hj2 hse
  rw[decide_eq_true (show(j:Int)<(((E.map edI).length:Nat):Int) by rw[bR];omega),cond_true,if_pos n0,aa,hj2]
  simp only
  refine aV ((),(hY (E.take (j+1)),())) (λK=>?_) ?_
  ·rw[hse]
   cases hb:e.2.2.2
   ·have es:hY [e]=[e.2.2.1]:=by unfold hY;simp[hb]
    have c1:((hY (E.take j)).length+([e.2.2.1]:List (List Int)).length)*32<=140737488355328:=by simp;omega
    have c2:(hY (E.take j)).length+([e.2.2.1]:List (List Int)).length<=9223372036854775807:=by simp;omega
    rw[aJ,cond_true,if_pos c1,if_pos c2,es]
   ·have es:hY [e]=[]:=by unfold hY;simp[hb]
    rw[aB,cond_false,es,b9]
  ·simp only
   rw[cY (by omega)]
   exact hk (m-1) _ _ (by omega) ⟨j+1,rfl,by omega,rfl⟩
 ·have hj2:j=E.length:=by omega
  rw[decide_eq_false (show ¬(j:Int)<(((E.map edI).length:Nat):Int) by rw[bR];omega),cond_false,hj2,di]
end
noncomputable section
theorem ML{a b:Nat}(ha:a<18446744073709551616)(hb:b<18446744073709551616):eF .and .u64 (a:Int) (b:Int)=((a&&& b:Nat):Int):=by
 have hlt:a&&& b<2 ^ 64:=Nat.and_lt_two_pow _ hb
 simp only[eF,BitVec.toNat_and,rI ha,rI hb]
 exact wrap_u64 hlt
theorem MM(l:Nat->Bool){c:Nat}(h:c<256):FV N0 (ofB l,((c:Int),()))=some ((l c,()),()):=by
 unfold FV
 have hw:c / 64<4:=by omega
 have hl:c % 64<64:=eR _ (by omega)
 have w1:IntKind.wrap .u8 (Int.tdiv (c:Int) 64)=((c / 64:Nat):Int):=by rw[IK];exact jZ (by omega)
 have g:=jq (l:=l) hw
 have n1:¬((64:Int)=0):=by omega
 have n2:¬(((c % 64:Nat):Int)<0):=by omega
 have n3:(0:Int)<=((c / 64:Nat):Int):=by omega
 simp only[w1,IL]
 rw[if_neg n1,if_pos n3,aa,g]
 simp only
 rw[if_neg n1,if_neg n2]
 have e1:Nat.min (Int.toNat ((c % 64:Nat):Int)) (IntKind.bits .u64)=c % 64:=by
  rw[aa];exact dm (by show c % 64<=64;omega)
 have hlt:=dW l (c / 64)
 have e2:Int.fdiv ((br l (c / 64):Nat):Int) (2 ^ (c % 64))=((br l (c / 64) / 2 ^ (c % 64):Nat):Int):=by
  rw[show(2:Int) ^ (c % 64)=((2 ^ (c % 64):Nat):Int) by simp]
  rw[nN _ (aX (2 ^ (c % 64)))]
  exact(Int.natCast_ediv _ _).symm
 have e3:eF .and .u64 ((br l (c / 64) / 2 ^ (c % 64):Nat):Int) 1=((br l (c / 64) / 2 ^ (c % 64) % 2:Nat):Int):=by
  have:=ML (a:=br l (c / 64) / 2 ^ (c % 64)) (b:=1) (nU (qS _ _) hlt) (by omega)
  rw[Nat.and_one_is_mod]at this
  exact this
 have hb:=dC l (c / 64) (c % 64)
 rw[qs,show 64*(c / 64)+c % 64=c by omega,decide_eq_true hl,bF]at hb
 have e4:decide (((br l (c / 64) / 2 ^ (c % 64) % 2:Nat):Int)=1)=l c:=by
  rw[<-hb,decide_eq_decide];omega
 rw[e1,e2,e3,e4]
def hasB(S:List Int)(c:Nat):Bool:=((S[c / 64]?).getD 0).toNat.testBit (c % 64)
theorem qd(l:Nat->Bool){c:Nat}(h:c<256):hasB (ofB l) c=l c:=by
 unfold hasB
 rw[jq (l:=l) (show c / 64<4 by omega)]
 show(((br l (c / 64):Nat):Int).toNat).testBit (c % 64)=l c
 rw[aa,dC,show 64*(c / 64)+c % 64=c by omega,decide_eq_true (show c % 64<64 by omega),bF]
def wK(S:List Int):Prop:=S.length=4/\∀ x∈S,0<=x/\x<=18446744073709551615
theorem Ax{S:List Int}(h:wK S){c:Nat}(hc:c<256):FV N0 (S,((c:Int),()))=some ((hasB S c,()),()):=by
 obtain⟨l,rfl⟩:=DG h.1 h.2
 rw[MM l hc,qd l hc]
def a8(E:List Ed)(f:Nat->Bool)(c:Nat):Nat->Bool:=λx=>E.any λe=>!e.2.2.2&&(f e.1&&(hasB e.2.2.1 c&&decide (x=e.2.1)))
theorem Pz(t:Rx)(hok:t.ok):∀ (n:Nat),∀ e∈t.ay n,wK e.2.2.1:=by
 have hz:wK zS:=⟨rfl,by decide⟩
 induction t with
 |eps=>intro n e he;simp[Rx.ay,fE]at he;subst he;exact hz
 |set S=>intro n e he;simp[Rx.ay]at he;subst he;exact⟨hok.1,hok.2.2⟩
 |cat a b iha ihb=>
  intro n e he
  simp only[Rx.ay,ar,aA,cq,or_false]at he
  rcases he with(he|he)|he|he|he
  ·exact iha hok.1 n e he
  ·exact ihb hok.2 _ e he
  all_goals subst he;exact hz
 |alt a b iha ihb=>
  intro n e he
  simp only[Rx.ay,ar,aA,cq,or_false]at he
  rcases he with(he|he)|he|he|he|he
  ·exact iha hok.1 n e he
  ·exact ihb hok.2 _ e he
  all_goals subst he;exact hz
 |rep k a ih=>
  intro n e he
  simp only[Rx.ay,ar,aA,cq,or_false]at he
  rcases he with((he|he|he)|he)|he
  ·exact ih hok.2 n e he
  ·subst he;exact hz
  ·subst he;exact hz
  ·split at he
   ·simp at he
   ·simp only[aS]at he;subst he;exact hz
  ·split at he
   ·simp at he
   ·simp only[aS]at he;subst he;exact hz
theorem MN{n:Nat}(hn:n<=100000){E:List Ed}(hE:E.length<=100000)(hin:InE n E)(hS:∀ e∈E,wK e.2.2.1)(X:Int×Int)(f:Nat->Bool){c:Nat}(hc:c<256):
 L3 N0 (((n:Int),(E.map edI,X)),(bsN n f,((c:Int),())))=some ((bsN n (a8 E f c),()),()):=by
 unfold L3
 simp only
 have bD:List.replicate ((n:Int)).toNat false=bsN n (a8 [] f c):=by
  rw[aa]
  unfold bsN a8
  apply eA
  intro i
  rw[bX]
  by_cases hi:i<n
  ·rw[dR hi,kJ,if_pos hi];rfl
  ·rw[bx (by rw[il];omega),bx (by rw[kN];omega)];rfl
 rw[if_pos (show(0:Int)<=(n:Int)/\(n:Int)<=(n:Int) by omega),if_pos (show((n:Int)).toNat*1<=140737488355328 by rw[aa];omega),bD]
 refine aZ (λm x q=>∃ j:Nat,x=((bsN n (a8 (E.take j) f c),()),((j:Int),()))/\m+j=E.length/\q=some ((bsN n (a8 E f c),()),())) ?_ N0 E.length _ _ (by unfold N0;omega) ⟨0,rfl,rfl,rfl⟩
 rintro m x q ⟨j,rfl,hm,rfl⟩ k hk
 simp only
 rcases ap j E.length with hj|hj
 ·have n0:(0:Int)<=(j:Int):=by omega
  have hj2:(E.map edI)[j]?=some (edI E[j]):=by rw[bX,ah hj];rfl
  have htk:E.take (j+1)=E.take j++[E[j]]:=by rw[jA,ah hj];rfl
  obtain⟨r1,r2⟩:=hin _ (bp hj)
  have hse:=hS _ (bp hj)
  generalize E[j]=e at hj2 htk r1 r2 hse
  have hst:∀ x,a8 (E.take (j+1)) f c x=(a8 (E.take j) f c x||(!e.2.2.2&&(f e.1&&(hasB e.2.2.1 c&&decide (x=e.2.1))))):=by
   intro x
   rw[htk]
   unfold a8
   rw[List.any_append]
   simp
  have n1:(0:Int)<=(e.1:Int):=by omega
  have n2:(0:Int)<=(e.2.1:Int):=by omega
  rw[decide_eq_true (show(j:Int)<(((E.map edI).length:Nat):Int) by rw[bR];omega),cond_true,if_pos n0,aa,hj2]
  simp only
  refine aV ((bsN n (a8 (E.take j) f c),()),((!e.2.2.2&&(f e.1&&hasB e.2.2.1 c)),())) (λK=>?_) ?_
  ·cases e.2.2.2
   ·rw[aJ,cond_true,decide_eq_true (show(e.1:Int)<(((bsN n f).length:Nat):Int) by rw[hJ];omega),cond_true,if_pos n1,aa,hP f r1]
    simp only
    cases f e.1
    ·rfl
    ·rw[cond_true,ae (Ax hse hc)]
     rfl
   ·rfl
  ·simp only
   have w1:IntKind.wrap .i64 ((j:Int)+1)=((j+1:Nat):Int):=cY (by omega)
   rw[w1]
   refine aV ((bsN n (a8 (E.take (j+1)) f c),()),()) (λK=>?_) ?_
   ·cases hb:(!e.2.2.2&&(f e.1&&hasB e.2.2.1 c))
    ·rw[cond_false]
     have:a8 (E.take (j+1)) f c=a8 (E.take j) f c:=by
      funext x
      rw[hst x]
      have:(!e.2.2.2&&(f e.1&&(hasB e.2.2.1 c&&decide (x=e.2.1))))=((!e.2.2.2&&(f e.1&&hasB e.2.2.1 c))&&decide (x=e.2.1)):=by simp[n5]
      rw[this,hb];simp
     rw[this]
    ·rw[cond_true,if_pos n2,aa,hP _ r2]
     simp only
     rw[if_pos n2,x7 _ r2]
     have:a8 (E.take (j+1)) f c=λx=>a8 (E.take j) f c x||decide (x=e.2.1):=by
      funext x
      rw[hst x]
      have:(!e.2.2.2&&(f e.1&&(hasB e.2.2.1 c&&decide (x=e.2.1))))=((!e.2.2.2&&(f e.1&&hasB e.2.2.1 c))&&decide (x=e.2.1)):=by simp[n5]
      rw[this,hb];simp
     rw[this]
   ·simp only
    exact hk (m-1) _ _ (by omega) ⟨j+1,rfl,by omega,rfl⟩
 ·have hj2:j=E.length:=by omega
  rw[decide_eq_false (show ¬(j:Int)<(((E.map edI).length:Nat):Int) by rw[bR];omega),cond_false,hj2,di]
end
noncomputable section
theorem Ay(l:Nat->Bool)(w:Nat):∃ n,n=mG (λi=>l (8*w+i)) 8:=⟨_,rfl⟩
def lG(l:Nat->Bool)(w:Nat):Nat:=Classical.choose (Ay l w)
theorem wL(l:Nat->Bool)(w:Nat):lG l w=mG (λi=>l (8*w+i)) 8:=Classical.choose_spec (Ay l w)
theorem Ja(l:Nat->Bool)(w:Nat):lG l w<256:=by rw[wL];exact uz _ 8
theorem iM(l:Nat->Bool)(w i:Nat):(lG l w).testBit i=(decide (i<8)&&l (8*w+i)):=by rw[wL];exact wv _ 8 i
theorem Ge{l m:Nat->Bool}{w:Nat}(h:∀ i,i<8->l (8*w+i)=m (8*w+i)):lG l w=lG m w:=by
 apply gG
 intro i
 rw[iM,iM]
 by_cases hi:i<8
 ·rw[h i hi]
 ·simp[hi]
theorem MO{l:Nat->Bool}{w i:Nat}(hi:i<8):lG l w|||2 ^ i=lG (λx=>l x||decide (x=8*w+i)) w:=by
 apply gG
 intro j
 rw[kU,iM,iM,nT]
 by_cases hj:j<8
 ·simp only[hj,decide_true,bF]
  congr 1
  rw[decide_eq_decide];omega
 ·simp only[hj,decide_false,dI,cP,decide_eq_false_iff_not];omega
theorem DJ{n:Nat}(h:n<256):(BitVec.ofInt (IntKind.bits .u8) (n:Int)).toNat=n:=by
 have:IntKind.bits .u8=8:=rfl
 rw[this,qH]
 omega
theorem MP{a b:Nat}(ha:a<256)(hb:b<256):eF .or .u8 (a:Int) (b:Int)=((a|||b:Nat):Int):=by
 have hlt:a|||b<2 ^ 8:=qK ha hb
 simp only[eF,qR,DJ ha,DJ hb]
 exact jZ hlt
theorem DK{i:Nat}(h:i<8):2 ^ i<256:=bz (qB (by omega) h) (by decide)
theorem Az{i:Nat}(h:i<8):IntKind.wrap .u8 ((1:Int)*2 ^ (Nat.min (Int.toNat (i:Int)) (IntKind.bits .u8)))=((2 ^ i:Nat):Int):=by
 have e:Nat.min (Int.toNat (i:Int)) (IntKind.bits .u8)=i:=by
  rw[aa];exact dm (by show i<=8;omega)
 rw[e,Int.one_mul]
 have:=jZ (DK h)
 rw[<-this]
 congr 1
def da(n:Nat)(l:Nat->Bool):List Int:=(List.range ((n+7) / 8)).map λw=>((lG l w:Nat):Int)
theorem lH(n:Nat)(l:Nat->Bool):(da n l).length=(n+7) / 8:=by simp[da]
theorem j5{n:Nat}(l:Nat->Bool){w:Nat}(h:w<(n+7) / 8):(da n l)[w]?=some ((lG l w:Nat):Int):=by
 unfold da
 rw[bX,dR h]
 rfl
theorem AA{n:Nat}(l:Nat->Bool){i:Nat}(h:i<n):(da n l).set (i / 8) (eF .or .u8 ((lG l (i / 8):Nat):Int) ((2 ^ (i % 8):Nat):Int))=da n (λx=>l x||decide (x=i)):=by
 have hi:i % 8<8:=eR _ (by omega)
 rw[MP (Ja _ _) (DK hi),MO hi,show 8*(i / 8)+i % 8=i by omega]
 apply eA
 intro j
 rw[jB]
 by_cases hj:j<(n+7) / 8
 ·have g1:=j5 (n:=n) (λx=>l x||decide (x=i)) hj
  have g2:=j5 (n:=n) l hj
  rw[g1,g2]
  by_cases e:i / 8=j
  ·subst e
   rw[if_pos rfl,if_pos (by rw[lH];omega)]
  ·rw[if_neg e,Ge (l:=l) (m:=λx=>l x||decide (x=i)) (w:=j) λk hk=>by
    have:¬8*j+k=i:=by omega
    simp[this]]
 ·have e1:(da n λx=>l x||decide (x=i))[j]?=none:=bx (by rw[lH];omega)
  have e2:(da n l)[j]?=none:=bx (by rw[lH];omega)
  rw[e1,e2,if_neg (by omega)]
theorem wM(n:Nat):List.replicate ((n+7) / 8) (0:Int)=da n (λ_=>false):=by
 apply eA
 intro j
 by_cases hj:j<(n+7) / 8
 ·rw[j5 _ hj,kJ,if_pos hj]
  have:lG (λ_=>false) j=0:=by
   apply gG
   intro i
   rw[iM]
   simp
  rw[this];rfl
 ·rw[bx (by rw[il];omega),bx (by rw[lH];omega)]
theorem nD{n:Nat}{l m:Nat->Bool}(h:da n l=da n m):∀ i,i<n->l i=m i:=by
 intro i hi
 have hw:i / 8<(n+7) / 8:=by omega
 have g:(da n l)[i / 8]?=(da n m)[i / 8]?:=by rw[h]
 rw[j5 _ hw,j5 _ hw]at g
 injection g with g
 have g:lG l (i / 8)=lG m (i / 8):=by omega
 have b1:=iM l (i / 8) (i % 8)
 have b2:=iM m (i / 8) (i % 8)
 rw[g,b2,show 8*(i / 8)+i % 8=i by omega,decide_eq_true (show i % 8<8 by omega),bF,bF]at b1
 exact b1.symm
theorem lI{n:Nat}{l m:Nat->Bool}(h:∀ i,l i=m i):da n l=da n m:=by
 have:l=m:=funext h
 rw[this]
theorem RF{n:Nat}(hn:n<=100000):IntKind.wrap .i64 (Int.tdiv (IntKind.wrap .i64 ((n:Int)+7)) 8)=(((n+7) / 8:Nat):Int):=by
 have e:(n:Int)+7=((n+7:Nat):Int):=by omega
 rw[e,bH (by omega),show(8:Int)=((8:Nat):Int) by rfl,<-kV]
 exact bH (by omega)
theorem td8(i:Nat)(h:i<=100000):IntKind.wrap .i64 (Int.tdiv (i:Int) 8)=((i / 8:Nat):Int):=by
 rw[show(8:Int)=((8:Nat):Int) by rfl,<-kV]
 exact bH (by omega)
theorem tm8(i:Nat):IntKind.wrap .u64 (Int.tmod (i:Int) 8)=((i % 8:Nat):Int):=by
 rw[show(8:Int)=((8:Nat):Int) by rfl,<-oa]
 exact wrap_u64 (by omega)
def Cf(n:Nat)(f:Nat->Bool):Nat->Bool:=λx=>decide (x<n)&&f x
theorem MQ{n:Nat}(hn:n<=100000)(f:Nat->Bool):LX N0 (bsN n f,())=some ((da n (Cf n f),()),()):=by
 unfold LX
 have n8:¬((8:Int)=0):=by omega
 simp only[hJ,RF hn]
 rw[if_neg n8,if_pos ⟨by omega,by omega⟩,if_pos (by rw[aa];omega),aa,wM]
 have e0:da n (λ_=>false)=da n (λx=>decide (x<0)&&f x):=lI λi=>by simp
 rw[e0]
 refine aZ (λm x q=>∃ j:Nat,x=((da n (λx=>decide (x<j)&&f x),()),((j:Int),()))/\m+j=n/\q=some ((da n (Cf n f),()),())) ?_ N0 n _ _ (by unfold N0;omega) ⟨0,rfl,rfl,rfl⟩
 rintro m x q ⟨j,rfl,hm,rfl⟩ k hk
 simp only
 rcases ap j n with hj|hj
 ·have n0:(0:Int)<=(j:Int):=by omega
  have n1:(0:Int)<=((j / 8:Nat):Int):=by omega
  have n2:¬(((j % 8:Nat):Int)<0):=by omega
  have hw:j / 8<(n+7) / 8:=by omega
  have h8:j % 8<8:=eR _ (by omega)
  rw[decide_eq_true (show(j:Int)<(n:Int) by omega),cond_true,if_pos n0,aa,hP f hj]
  simp only
  refine aV ((da n (λx=>decide (x<j+1)&&f x),()),()) (λK=>?_) ?_
  ·have est:∀ x,(decide (x<j+1)&&f x)=((decide (x<j)&&f x)||(decide (x=j)&&f j)):=by
    intro x
    by_cases hx:x=j
    ·subst hx
     have h1:¬x<x:=by omega
     have h2:x<x+1:=by omega
     simp[h1,h2]
    ·have:(x<j+1)↔(x<j):=by omega
     simp[this,hx]
   cases hb:f j
   ·rw[cond_false,lI (n:=n) (l:=λx=>decide (x<j+1)&&f x) (m:=λx=>decide (x<j)&&f x) λx=>by rw[est x,hb];simp]
   ·rw[cond_true,if_neg n8,td8 j (by omega),if_pos n1,aa,j5 _ hw]
    simp only
    rw[if_neg n8,tm8,if_neg n2,if_pos n1]
    simp only[if_pos n1,Az h8]
    rw[AA _ hj,lI (n:=n) (l:=λx=>decide (x<j+1)&&f x) (m:=λx=>(decide (x<j)&&f x)||decide (x=j)) λx=>by rw[est x,hb];simp]
  ·simp only
   rw[cY (by omega)]
   exact hk (m-1) _ _ (by omega) ⟨j+1,rfl,by omega,rfl⟩
 ·have:j=n:=by omega
  subst this
  rw[decide_eq_false (show ¬(j:Int)<(j:Int) by omega),cond_false]
  rfl
end
noncomputable section
def inS(dD:List (List Int))(c:Nat)(x:Nat):Bool:=hasB ((dD[x]?).getD []) c
theorem MR{dD:List (List Int)}(hn:dD.length<=100000)(hS:∀ S∈dD,wK S){c:Nat}(hc:c<256):LV N0 (dD,((c:Int),()))=some ((da dD.length (Cf dD.length (inS dD c)),()),()):=by
 unfold LV
 have n8:¬((8:Int)=0):=by omega
 simp only[RF hn]
 rw[if_neg n8,if_pos ⟨by omega,by omega⟩,if_pos (by rw[aa];omega),aa,wM]
 have e0:da dD.length (λ_=>false)=da dD.length (λx=>decide (x<0)&&inS dD c x):=lI λi=>by simp
 rw[e0]
 refine aZ (λm x q=>∃ j:Nat,x=((da dD.length (λx=>decide (x<j)&&inS dD c x),()),((j:Int),()))/\m+j=dD.length/\q=some ((da dD.length (Cf dD.length (inS dD c)),()),())) ?_ N0 dD.length _ _ (by unfold N0;omega) ⟨0,rfl,rfl,rfl⟩
 rintro m x q ⟨j,rfl,hm,rfl⟩ k hk
 simp only
 rcases ap j dD.length with hj|hj
 ·have n0:(0:Int)<=(j:Int):=by omega
  have n1:(0:Int)<=((j / 8:Nat):Int):=by omega
  have n2:¬(((j % 8:Nat):Int)<0):=by omega
  have hw:j / 8<(dD.length+7) / 8:=by omega
  have h8:j % 8<8:=eR _ (by omega)
  have hj2:dD[j]?=some dD[j]:=ah hj
  have hin:inS dD c j=hasB dD[j] c:=by unfold inS;rw[hj2];rfl
  have hok:=hS _ (bp hj)
  generalize dD[j]=S at hj2 hin hok
  rw[decide_eq_true (show(j:Int)<((dD.length:Nat):Int) by omega),cond_true,if_pos n0,aa,hj2]
  simp only
  rw[ae (Ax hok hc),<-hin]
  simp only
  refine aV ((da dD.length (λx=>decide (x<j+1)&&inS dD c x),()),()) (λK=>?_) ?_
  ·have est:∀ x,(decide (x<j+1)&&inS dD c x)=((decide (x<j)&&inS dD c x)||(decide (x=j)&&inS dD c j)):=by
    intro x
    by_cases hx:x=j
    ·subst hx
     have h1:¬x<x:=by omega
     have h2:x<x+1:=by omega
     simp[h1,h2]
    ·have:(x<j+1)↔(x<j):=by omega
     simp[this,hx]
   cases hb:inS dD c j
   ·rw[cond_false,lI (n:=dD.length) (l:=λx=>decide (x<j+1)&&inS dD c x) (m:=λx=>decide (x<j)&&inS dD c x) λx=>by rw[est x,hb];simp]
   ·rw[cond_true,if_neg n8,td8 j (by omega),if_pos n1,aa,j5 _ hw]
    simp only
    rw[if_neg n8,tm8,if_neg n2,if_pos n1]
    simp only[if_pos n1,Az h8]
    rw[AA _ hj,lI (n:=dD.length) (l:=λx=>decide (x<j+1)&&inS dD c x) (m:=λx=>(decide (x<j)&&inS dD c x)||decide (x=j)) λx=>by rw[est x,hb];simp]
  ·simp only
   rw[cY (by omega)]
   exact hk (m-1) _ _ (by omega) ⟨j+1,rfl,by omega,rfl⟩
 ·have:j=dD.length:=by omega
  subst this
  rw[decide_eq_false (show ¬((dD.length:Nat):Int)<((dD.length:Nat):Int) by omega),cond_false]
  rfl
end
noncomputable section
theorem Jb{α β:Type}(eq:α->α->Bool)(k:α)(v:β):∀ x:List (α×β),(fe eq k v x).length<=x.length+1:=by
 intro x
 induction x with
 |nil=>simp[fe]
 |cons p r ih=>
  simp only[fe]
  cases eq k p.1
  ·simp;exact ih
  ·simp
theorem Cg(x:Int):0<=IntKind.wrap .u8 x/\IntKind.wrap .u8 x<=255:=by
 have h:=eS .u8 x
 exact⟨h.1,h.2⟩
def sC(arr:List Int):Prop:=arr.length=256/\∀ v∈arr,0<=v/\v<=255
theorem Gf{arr:List Int}(h:sC arr)(i:Nat)(x:Int):sC (arr.set i (IntKind.wrap .u8 x)):=by
 refine⟨by rw[fO];exact h.1,λv hv=>?_⟩
 rcases List.mem_or_eq_of_mem_set hv with hv|rfl
 ·exact h.2 v hv
 ·exact Cg x
theorem MS{dD:List (List Int)}(hn:dD.length<=100000)(hS:∀ S∈dD,wK S):∃ arr,LW N0 (dD,())=some ((arr,()),())/\sC arr:=by
 unfold LW
 simp only
 have hz:sC (List.replicate 256 (0:Int)):=⟨il,λv hv=>by rw[List.mem_replicate]at hv;omega⟩
 generalize List.replicate 256 (0:Int)=zs at hz |-
 refine eu (λm x=>∃ (c:Nat) (arr:List Int) (mp:List (List Int×Int)),x=((zs,(arr,(mp,()))),((c:Int),()))/\m+c=256/\sC arr/\mp.length<=c) (λz=>∃ arr,z=some ((arr,()),())/\sC arr) ?_ N0 256 _ (by unfold N0;omega) ⟨0,zs,[],rfl,rfl,hz,au _⟩
 rintro m x ⟨c,arr,mp,rfl,hm,ha,hmp⟩ k hk
 simp only
 rcases ap c 256 with hc|hc
 ·have n0:(0:Int)<=(c:Int):=by omega
  obtain⟨v,hv⟩:∃ v,arr[c]?=some v:=⟨arr[c]'(by rw[ha.1];exact hc),ah _⟩
  rw[decide_eq_true (show(c:Int)<256 by omega),cond_true,jZ hc,ae (MR hn hS hc)]
  simp only
  refine p5 (P:=λz=>∃ arr,z=some ((arr,()),())/\sC arr) λK hK=>?_
  have go:∀ (mp':List (List Int×Int)) (y:Int),mp'.length<=c+1->∃ r,K ((zs,(arr,(mp',()))),(y,()))=some ((r,()),())/\sC r:=by
   intro mp' y hl
   rw[hK]
   simp only
   rw[if_pos n0,aa,hv]
   simp only
   rw[if_pos n0,cY (by omega)]
   exact hk (m-1) _ (by omega) ⟨c+1,_,mp',rfl,by omega,Gf ha c y,hl⟩
  generalize da dD.length (Cf dD.length (inS dD c))=key
  cases hh:fi (λv10 v11=>decide (v10=v11)) key mp
  ·have Oe:xr mp=true:=by
    unfold xr maxLen
    rw[lc]
    omega
   rw[aJ,cond_true,Oe,cond_true]
   exact go _ _ (bG (Jb _ _ _ _) (by omega))
  ·rw[aB,cond_false]
   exact go _ _ (by omega)
 ·rw[decide_eq_false (show ¬(c:Int)<256 by omega),cond_false]
  exact⟨arr,rfl,ha⟩
end
noncomputable section
def mkL(n last:Nat):List Int:=(List.range n).map λq=>if q=last then 0 else -1
theorem DL(n last:Nat):(mkL n last).length=n:=by simp[mkL]
theorem DM{n:Nat}(last:Nat){i:Nat}(h:i<n):(mkL n last)[i]?=some (if i=last then 0 else -1):=by
 unfold mkL
 rw[bX,dR h]
 rfl
theorem MT{n:Nat}(last:Nat){i:Nat}(h:i<n):LY N0 (mkL n last,((i:Int),()))=some ((if i=last then 0 else -1,()),()):=by
 unfold LY
 have n0:(0:Int)<=(i:Int):=by omega
 simp only
 rw[decide_eq_false (show ¬(((mkL n last).length:Nat):Int)<=(i:Int) by rw[DL];omega),cond_false,if_pos n0,aa,DM last h]
def ia(f:Nat->Bool)(last i:Nat):Int:=if f last=true/\last<i then 0 else -1
theorem MU{n:Nat}(hn:n<=100000){last:Nat}(hl:last<n)(b)(hb:b.2.1=mkL n last)(f:Nat->Bool):LZ N0 (some b,(bsN n f,()))=some ((ia f last n,()),()):=by
 unfold LZ
 simp only[hb]
 refine aZ (λm x q=>∃ i:Nat,x=((),(ia f last i,((i:Int),())))/\m+i=n/\q=some ((ia f last n,()),())) ?_ N0 n _ _ (by unfold N0;omega) ⟨0,by rw[show ia f last 0=-1 from by unfold ia;rw[if_neg (by omega)]];rfl,rfl,rfl⟩
 rintro m x q ⟨i,rfl,hm,rfl⟩ k hk
 simp only
 rcases ap i n with hi|hi
 ·have n0:(0:Int)<=(i:Int):=by omega
  rw[decide_eq_true (show(i:Int)<(((bsN n f).length:Nat):Int) by rw[hJ];omega),cond_true,if_pos n0,aa,hP f hi]
  simp only
  rw[ae (MT last hi)]
  simp only
  refine aV ((),(f i&&decide (i=last),())) (λK=>?_) ?_
  ·cases f i
   ·rfl
   ·rw[cond_true]
    by_cases e:i=last
    ·subst e
     have h1:ia f i i=-1:=by unfold ia;rw[if_neg (by omega)]
     rw[if_pos rfl,h1]
     simp
    ·rw[if_neg e]
     simp[e]
  ·simp only
   refine aV ((),(ia f last (i+1),())) (λK=>?_) ?_
   ·by_cases e:i=last
    ·subst e
     cases hf:f i
     ·have h1:ia f i i=ia f i (i+1):=by unfold ia;simp[hf]
      simp[h1]
     ·have h1:ia f i (i+1)=0:=by unfold ia;rw[if_pos ⟨hf,by omega⟩]
      simp[h1]
    ·have h1:ia f last i=ia f last (i+1):=by
      unfold ia
      have:(last<i+1)↔(last<i):=by omega
      simp[this]
     simp[e,h1]
   ·simp only
    rw[cY (by omega)]
    exact hk (m-1) _ _ (by omega) ⟨i+1,rfl,by omega,rfl⟩
 ·have:i=n:=by omega
  subst this
  rw[decide_eq_false (show ¬(i:Int)<(((bsN i f).length:Nat):Int) by rw[hJ];omega),cond_false]
end
noncomputable section
theorem Ch{E:List Ed}{g:Nat->Bool}(hg:mq E g){p q:Nat}(h:Fr0 E p q)(hp:g p=true):g q=true:=by
 induction h with
 |refl=>exact hp
 |step _ he ih=>exact hg _ he rfl ih
theorem Gg(t:Rx){g:Nat->Bool}(h:gQ (t.ay 0) (λx=>decide (x=t.fst 0)) g):g (t.lst 0)=t.null:=by
 obtain⟨h1,h2,h3⟩:=h
 cases hn:t.null
 ·have hle:=h3 (t.cl 0) (λe he hf hp=>t.Dr 0 e he hf hp) (λx hx=>by
   rw[decide_eq_true_eq]at hx
   rw[hx];exact t.nA 0)
  cases hg:g (t.lst 0)
  ·rfl
  ·have:=hle _ hg
   rw[t.rF,hn]at this
   cases this
 ·exact Ch h2 (t.IG 0 hn) (h1 _ (by simp))
theorem eX{E:List Ed}{f g g':Nat->Bool}(h:gQ E f g)(h':gQ E f g'):g=g':=by
 funext x
 cases hg:g x
 ·cases hg':g' x
  ·rfl
  ·have:=h'.2.2 g h.2.1 h.1 x hg'
   rw[hg]at this;cases this
 ·exact(h.2.2 g' h'.2.1 h'.1 x hg).symm
def fA(E:List Ed):List Nat:=(E.filter λe=>!e.2.2.2).map λe=>e.2.1
def onT(E:List Ed)(f:Nat->Bool):List Bool:=(fA E).map f
theorem oF{E:List Ed}{f:Nat->Bool}{c x:Nat}(h:a8 E f c x=true):x∈fA E:=by
 unfold a8 at h
 rw[gJ]at h
 obtain⟨e,he,h⟩:=h
 simp only[ag,bu,decide_eq_true_eq]at h
 obtain⟨h1,_,_,h2⟩:=h
 unfold fA
 rw[gL]
 exact⟨e,nY.2 ⟨he,by simp[h1]⟩,h2.symm⟩
theorem rP{E:List Ed}{f f':Nat->Bool}{c c':Nat}(h:onT E (a8 E f c)=onT E (a8 E f' c')):a8 E f c=a8 E f' c':=by
 have key:∀ x,x∈fA E->a8 E f c x=a8 E f' c' x:=by
  unfold onT at h
  intro x hx
  exact List.map_inj_left.1 h x hx
 funext x
 cases h1:a8 E f c x
 ·cases h2:a8 E f' c' x
  ·rfl
  ·have:=key x (oF h2)
   rw[h1,h2]at this;exact this
 ·have:=key x (oF h1)
  rw[h1]at this;exact this
def RG(E:List Ed)(f0 g:Nat->Bool):Prop:=gQ E f0 g\/∃ f c,gQ E (a8 E f c) g
theorem qe(E:List Ed)(f:Nat->Bool):(onT E f).length=(fA E).length:=by simp[onT]
theorem MV{E:List Ed}{f0:Nat->Bool}(l:List (Nat->Bool))(hn:l.Nodup)(h:∀ g∈l,RG E f0 g):l.length<=2 ^ (fA E).length+1:=by
 refine rE (λ(g:Nat->Bool) (k:Nat)=>(k=0/\gQ E f0 g)\/(0<k/\∃ f c,gQ E (a8 E f c) g/\k=dK (onT E (a8 E f c))+1)) ?_ (2 ^ (fA E).length+1) l hn ?_
 ·rintro x y k (⟨hk,hx⟩|⟨hk,f,c,hx,e⟩) (⟨hk',hy⟩|⟨hk',f',c',hy,e'⟩)
  ·exact eX hx hy
  ·omega
  ·omega
  ·have hb:dK (onT E (a8 E f c))=dK (onT E (a8 E f' c')):=by omega
   have:=oB _ _ (by rw[qe,qe]) hb
   have:=rP this
   rw[this]at hx
   exact eX hx hy
 ·intro g hg
  rcases h g hg with hg|⟨f,c,hg⟩
  ·exact⟨0,Nat.succ_pos _,.inl ⟨rfl,hg⟩⟩
  ·have:=lE (onT E (a8 E f c))
   rw[qe]at this
   exact⟨_,by omega,.inr ⟨by omega,f,c,hg,rfl⟩⟩
end
noncomputable section
def Rx.dw:Rx->Nat
 |.eps=>0
 |.set _=>1
 |.cat a b=>a.dw+b.dw
 |.alt a b=>a.dw+b.dw
 |.rep _ a=>a.dw
theorem ib(E E':List Ed):fA (E++E')=fA E++fA E':=by unfold fA;rw[List.filter_append,eB]
theorem uF:∀ (t:Rx) (n:Nat),(fA (t.ay n)).length=t.dw:=by
 intro t
 induction t with
 |eps=>intro n;rfl
 |set S=>intro n;rfl
 |cat a b iha ihb=>
  intro n
  simp only[Rx.ay,ib,ak,iha,ihb,Rx.dw]
  rfl
 |alt a b iha ihb=>
  intro n
  simp only[Rx.ay,ib,ak,iha,ihb,Rx.dw]
  rfl
 |rep k a ih=>
  intro n
  simp only[Rx.ay,ib,ak,ih,Rx.dw]
  split <;> split <;> rfl
end
noncomputable section
def rQ(S:List Int):Prop:=S=ofB (λ_=>true)\/∃ c:Int,S=ofB (rG c)
def Rx.pw:Rx->Nat
 |.cat ..=>2
 |.alt ..=>2
 |_=>0
def Rx.cw:Rx->Nat
 |.alt ..=>2
 |_=>0
open Classical in
def Rx.wt:Rx->Nat
 |.eps=>1
 |.set S=>if rQ S then 1 else 2
 |.cat a b=>a.wt+a.cw+(b.wt+b.pw)
 |.alt a b=>a.wt+(b.wt+b.cw)+1
 |.rep _ a=>a.wt+a.pw+1
theorem Rx.PA:Rx.wt .eps=1:=by rw[Rx.wt]
theorem Rx.x8(a b:Rx):(Rx.cat a b).wt=a.wt+a.cw+(b.wt+b.pw):=by rw[Rx.wt]
theorem Rx.uG(a b:Rx):(Rx.alt a b).wt=a.wt+(b.wt+b.cw)+1:=by rw[Rx.wt]
theorem Rx.x9(k:Int)(a:Rx):(Rx.rep k a).wt=a.wt+a.pw+1:=by rw[Rx.wt]
theorem Rx.PB(k:Int)(a:Rx):(Rx.rep k a).pw=0:=rfl
theorem Rx.Jc(a b:Rx):(Rx.cat a b).cw=0:=rfl
theorem Rx.PC(k:Int)(a:Rx):(Rx.rep k a).cw=0:=rfl
theorem Rx.PD(a b:Rx):(Rx.alt a b).cw=2:=rfl
theorem Rx.RH:∀ t:Rx,t.pw<=2:=by intro t;cases t <;> simp[Rx.pw]
def Wo(i:Nat)(o:Option (Rx×Nat)):Prop:=∀ t j,o=some (t,j)->t.wt+i<=j
def WoP(i:Nat)(o:Option (Rx×Nat)):Prop:=∀ t j,o=some (t,j)->t.wt+t.pw+i<=j
def WoC(i:Nat)(o:Option (Rx×Nat)):Prop:=∀ t j,o=some (t,j)->t.wt+t.cw+i<=j
theorem MW{s:List Int}(hb:Bytes s){inner:Nat->Nat->Option (Rx×Nat)}{i d:Nat}(hin:Wo (i+1) (inner (i+1) (d+1))):WoP i (mK inner s i d):=by
 intro t j h
 unfold mK at h
 split at h
 ·cases h
 split at h
 ·injection h with h;injection h with h1 h2;subst h1;subst h2;simp only[Rx.wt,Rx.pw,if_pos (show rQ (ofB λ_=>true)from .inl rfl)];omega
 split at h
 ·injection h with h;injection h with h1 h2;subst h1;subst h2;simp only[Rx.wt,Rx.pw];omega
 split at h
 ·have hr:=(Dz hb (show i+1-1<i+1 by omega) t j h).1
  rw[xY]at h
  unfold nB at h
  split at h
  ·cases h
  rename_i l k hl
  generalize (if fj s (i+1) 94=true then λx=>!l x else l)=l' at h
  split at h
  ·cases h
  injection h with h
  injection h with h1 h2
  subst h1
  have hk:=Dy hb _ _ _ _ _ hl
  have hk2:i+1<=k:=by
   refine bG ?_ hk
   split <;> omega
  have hw:Rx.wt (.set (ofB l'))<=2:=by simp only[Rx.wt];split <;> omega
  simp only[Rx.pw]
  omega
 split at h
 ·split at h
  ·cases h
  split at h
  ·cases h
  rename_i t2 j2 hi2
  have:=hin _ _ hi2
  have:=t2.RH
  split at h
  ·injection h with h;injection h with h1 h2;subst h1;subst h2;omega
  ·cases h
 split at h
 ·cases h
 rename_i c n hrd
 obtain⟨h1,h2,h3⟩:=kG (hb.drop i) hrd
 injection h with h;injection h with h4 h5;subst h4;subst h5
 simp only[Rx.wt,Rx.pw,if_pos (show rQ (ofB (rG c))from .inr ⟨c,rfl⟩)];omega
theorem MX{s:List Int}:∀ (m i0 i:Nat) (t0 t:Rx) (j:Nat),t0.wt+t0.pw+i0<=i->rH s m i t0=some (t,j)->t.wt+t.pw+i0<=j:=by
 intro m
 induction m with
 |zero=>intro i0 i t0 t j _ h;cases h
 |succ m ih=>
  intro i0 i t0 t j hr h
  simp only[rH]at h
  split at h
  ·exact ih i0 (i+1) _ t j (by rw[Rx.x9,Rx.PB];omega) h
  ·injection h with h;injection h with h1 h2;subst h1;subst h2;exact hr
theorem DN{s:List Int}(hb:Bytes s){inner:Nat->Nat->Option (Rx×Nat)}{i d:Nat}(hin:Wo (i+1) (inner (i+1) (d+1))):WoP i (kF inner s i d):=by
 intro t j h
 unfold kF at h
 split at h
 ·cases h
 rename_i t0 i0 h0
 exact MX _ i i0 t0 t j (MW hb hin _ _ h0) h
theorem RI(t:Rx):t.cw<=t.pw:=by cases t <;> simp[Rx.cw,Rx.pw]
theorem MY{s:List Int}(hb:Bytes s){inner:Nat->Nat->Option (Rx×Nat)}{d:Nat}(hin:∀ i d,Wo i (inner i d)):∀ (m i0 i:Nat) (t0 t:Rx) (j:Nat),t0.wt+t0.cw+i0<=i->sQ inner s d m i t0=some (t,j)->t.wt+t.cw+i0<=j:=by
 intro m
 induction m with
 |zero=>intro i0 i t0 t j _ h;cases h
 |succ m ih=>
  intro i0 i t0 t j hr h
  simp only[sQ]at h
  split at h
  ·split at h
   ·cases h
   rename_i t2 j2 h2
   have:=DN hb (hin (i+1) (d+1)) _ _ h2
   exact ih i0 j2 _ t j (by rw[Rx.x8,Rx.Jc];omega) h
  ·injection h with h;injection h with h1 h2;subst h1;subst h2;exact hr
theorem DO{s:List Int}(hb:Bytes s){inner:Nat->Nat->Option (Rx×Nat)}{i d:Nat}(hin:∀ i d,Wo i (inner i d)):WoC i (lF inner s i d):=by
 intro t j h
 unfold lF at h
 split at h
 ·cases h
 rename_i t0 i0 h0
 have h1:=DN hb (hin (i+1) (d+1)) _ _ h0
 have h2:=RI t0
 exact MY hb hin _ i i0 t0 t j (by omega) h
theorem MZ{s:List Int}(hb:Bytes s){inner:Nat->Nat->Option (Rx×Nat)}{d:Nat}(hin:∀ i d,Wo i (inner i d)):∀ (m i0 i:Nat) (t0 t:Rx) (j:Nat),t0.wt+i0<=i->sR inner s d m i t0=some (t,j)->t.wt+i0<=j:=by
 intro m
 induction m with
 |zero=>intro i0 i t0 t j _ h;cases h
 |succ m ih=>
  intro i0 i t0 t j hr h
  simp only[sR]at h
  split at h
  ·split at h
   ·cases h
   rename_i t2 j2 h2
   have:=DO hb hin _ _ h2
   exact ih i0 j2 _ t j (by rw[Rx.uG];omega) h
  ·injection h with h;injection h with h1 h2;subst h1;subst h2;exact hr
theorem M0{s:List Int}(hb:Bytes s):∀ (n i d:Nat),Wo i (kf s n i d):=by
 intro n
 induction n with
 |zero=>intro i d t j h;cases h
 |succ n ih=>
  intro i d t j h
  simp only[kf,B7]at h
  split at h
  ·cases h
  rename_i t0 i0 h0
  have:=DO hb ih _ _ h0
  exact MZ hb ih _ i i0 t0 t j (by omega) h
theorem Gi{s:List Int}(hb:Bytes s){t:Rx}(h:gd s=.ok t):t.wt<=s.length:=by
 unfold gd at h
 split at h
 ·cases h
 split at h
 ·cases h
 rename_i t2 i ho
 have h1:=M0 hb _ _ _ _ _ ho
 obtain⟨_,h2,_,_⟩:=j4 hb _ _ _ (by omega) _ _ ho
 split at h
 ·cases h
 split at h
 ·cases h
 injection h with h
 subst h
 omega
theorem Rx.fX:∀ t:Rx,t.dw<=t.wt:=by
 intro t
 induction t with
 |eps=>simp[Rx.dw]
 |set S=>simp only[Rx.dw,Rx.wt];split <;> omega
 |cat a b iha ihb=>rw[Rx.x8];simp only[Rx.dw];omega
 |alt a b iha ihb=>rw[Rx.uG];simp only[Rx.dw];omega
 |rep k a ih=>rw[Rx.x9];simp only[Rx.dw];omega
end
noncomputable section
def Rx.lin:Rx->Bool
 |.eps=>true
 |.set _=>true
 |.cat a b=>a.lin&&b.lin
 |_=>false
def Rx.lf:Rx->Bool
 |.eps=>false
 |.set _=>true
 |.cat a _=>a.lf
 |.alt a _=>a.lf
 |.rep k a=>decide (k=6)&&a.lf
inductive Rx.Lq:Rx->Prop
 |rep {k:Int} {S:List Int} (hk:k≠6) (hS:rQ S):Rx.Lq (.rep k (.set S))
 |cat {a:Rx} {S:List Int} (h:Rx.Lq a):Rx.Lq (.cat a (.set S))
theorem uH:∀ t:Rx,t.wt<=t.dw->t.lf=true/\t.lin=true/\(t.pw=0->∃ S,rQ S/\t=.set S):=by
 intro t
 induction t with
 |eps=>intro h;rw[Rx.PA]at h;simp[Rx.dw]at h
 |set S=>
  intro h
  simp only[Rx.wt,Rx.dw]at h
  split at h
  ·rename_i hS;exact⟨rfl,rfl,λ_=>⟨S,hS,rfl⟩⟩
  ·omega
 |cat a b iha ihb=>
  intro h
  rw[Rx.x8]at h
  simp only[Rx.dw]at h
  have h1:=a.fX
  have h2:=b.fX
  obtain⟨i1,i2,_⟩:=iha (by omega)
  obtain⟨j1,j2,_⟩:=ihb (by omega)
  exact⟨i1,by simp[Rx.lin,i2,j2],λh=>by simp[Rx.pw]at h⟩
 |alt a b iha ihb=>
  intro h
  rw[Rx.uG]at h
  simp only[Rx.dw]at h
  have h1:=a.fX
  have h2:=b.fX
  omega
 |rep k a ih=>
  intro h
  rw[Rx.x9]at h
  simp only[Rx.dw]at h
  have h1:=a.fX
  omega
theorem s8:∀ t:Rx,t.wt+t.cw<=t.dw+1->t.lin=true\/t.lf=true\/t.Lq:=by
 intro t
 induction t with
 |eps=>intro _;exact .inl rfl
 |set S=>intro _;exact .inl rfl
 |cat a b iha ihb=>
  intro h
  rw[Rx.x8,Rx.Jc]at h
  simp only[Rx.dw]at h
  have h1:=a.fX
  have h2:=b.fX
  by_cases ha:a.wt<=a.dw
  ·exact .inr (.inl (uH a ha).1)
  ·obtain⟨_,j2,j3⟩:=uH b (by omega)
   obtain⟨S,hS,rfl⟩:=j3 (by omega)
   rcases iha (by omega)with i|i|i
   ·exact .inl (by simp[Rx.lin,i])
   ·exact .inr (.inl i)
   ·exact .inr (.inr (.cat i))
 |alt a b iha ihb=>
  intro h
  rw[Rx.uG,Rx.PD]at h
  simp only[Rx.dw]at h
  have h1:=a.fX
  have h2:=b.fX
  omega
 |rep k a ih=>
  intro h
  rw[Rx.x9,Rx.PC]at h
  simp only[Rx.dw]at h
  have h1:=a.fX
  obtain⟨i1,_,i3⟩:=uH a (by omega)
  obtain⟨S,hS,rfl⟩:=i3 (by omega)
  by_cases hk:k=6
  ·exact .inr (.inl (by simp[Rx.lf,hk]))
  ·exact .inr (.inr (.rep hk hS))
theorem PE(t:Rx)(h:t.wt<=t.dw+1):t.lin=true\/t.lf=true\/t.Lq:=by
 cases t with
 |alt a b=>
  rw[Rx.uG]at h
  simp only[Rx.dw]at h
  have h1:=a.fX
  have h2:=b.fX
  exact .inr (.inl (uH a (by omega)).1)
 |eps=>exact s8 _ (by simpa [Rx.cw]using h)
 |set S=>exact s8 _ (by simpa [Rx.cw]using h)
 |cat a b=>exact s8 _ (by simpa [Rx.cw]using h)
 |rep k a=>exact s8 _ (by simpa [Rx.cw]using h)
def Rx.lvl:Rx->Nat->Nat->Nat
 |.set _,n,q=>if q=n then 0 else 1
 |.cat a b,n,q=>if q<n+2*a.len then a.lvl n q else if q<n+2*(a.len+b.len)then a.dw+b.lvl (n+2*a.len) q else if q=n+2*(a.len+b.len)then 0 else a.dw+b.dw
 |_,_,_=>0
theorem Rx.ya:∀ (t:Rx) (n:Nat),t.lvl n (t.fst n)=0:=by
 intro t n
 have:=t.bL
 cases t with
 |set S=>simp[Rx.lvl,Rx.fst,Rx.len]
 |cat a b=>
  have e:(Rx.cat a b).fst n=n+2*(a.len+b.len):=by simp only[Rx.fst,Rx.len];omega
  have ha:=a.bL
  rw[e,Rx.lvl,if_neg (by omega),if_neg (by omega),if_pos rfl]
 |_=>rfl
theorem Rx.DP:∀ (t:Rx) (n:Nat),t.lin=true->t.lvl n (t.lst n)=t.dw:=by
 intro t n h
 have:=t.bL
 cases t with
 |set S=>simp[Rx.lvl,Rx.lst,Rx.len,Rx.dw]
 |eps=>rfl
 |cat a b=>
  have e:(Rx.cat a b).lst n=n+2*(a.len+b.len)+1:=by simp only[Rx.lst,Rx.len];omega
  have ha:=a.bL
  rw[e,Rx.lvl,if_neg (by omega),if_neg (by omega),if_neg (by omega),Rx.dw]
 |alt a b=>cases h
 |rep k a=>cases h
theorem Rx.AB:∀ (t:Rx) (n:Nat),t.lin=true->∀ e∈t.ay n,t.lvl n e.2.1=t.lvl n e.1+(if e.2.2.2=true then 0 else 1):=by
 intro t
 induction t with
 |eps=>intro n _ e he;simp[Rx.ay,fE]at he;subst he;simp[Rx.lvl]
 |set S=>intro n _ e he;simp[Rx.ay]at he;subst he;simp[Rx.lvl]
 |alt a b=>intro n h;cases h
 |rep k a=>intro n h;cases h
 |cat a b iha ihb=>
  intro n h e he
  simp only[Rx.lin,ag]at h
  have ha:=a.bL
  have hb:=b.bL
  simp only[Rx.ay,ar,aA,cq,or_false]at he
  rcases he with(he|he)|he|he|he
  ·have hi:=a.dN n e he
   simp only[Rx.lvl]
   rw[if_pos (by omega),if_pos (by omega),iha n h.1 e he]
  ·have hi:=b.dN _ e he
   simp only[Rx.lvl]
   rw[if_neg (by omega),if_pos (by omega),if_neg (by omega),if_pos (by omega),ihb _ h.2 e he]
   omega
  ·subst he
   have hi:=a.pc n
   have hz:=a.ya n
   show(Rx.cat a b).lvl n (a.fst n)=(Rx.cat a b).lvl n (n+2*(a.len+b.len))+0
   simp only[Rx.lvl]
   rw[if_pos (show a.fst n<n+2*a.len by omega),if_neg (by omega),if_neg (by omega),if_true,hz]
  ·subst he
   have hi:=a.kE n
   have hi2:=b.pc (n+2*a.len)
   have hz:=a.DP n h.1
   have hz2:=b.ya (n+2*a.len)
   show(Rx.cat a b).lvl n (b.fst (n+2*a.len))=(Rx.cat a b).lvl n (a.lst n)+0
   simp only[Rx.lvl]
   rw[if_neg (show ¬b.fst (n+2*a.len)<n+2*a.len by omega),if_pos (by omega),if_pos (by omega),hz,hz2]
  ·subst he
   have hi2:=b.kE (n+2*a.len)
   have hz2:=b.DP (n+2*a.len) h.2
   show(Rx.cat a b).lvl n (n+2*(a.len+b.len)+1)=(Rx.cat a b).lvl n (b.lst (n+2*a.len))+0
   simp only[Rx.lvl]
   rw[if_neg (by omega),if_neg (by omega),if_neg (by omega),if_neg (show ¬b.lst (n+2*a.len)<n+2*a.len by omega),if_pos (by omega),hz2]
   omega
theorem Rx.DR:∀ (t:Rx) (n:Nat),t.lin=true->∀ x∈fA (t.ay n),0<t.lvl n x/\t.lvl n x<=t.dw/\∀ y∈fA (t.ay n),t.lvl n x=t.lvl n y->x=y:=by
 intro t
 induction t with
 |eps=>intro n _ x hx;simp[Rx.ay,fA,fE]at hx
 |set S=>
  intro n _ x hx
  simp[Rx.ay,fA]at hx
  subst hx
  refine⟨by simp[Rx.lvl],by simp[Rx.lvl,Rx.dw],λy hy _=>?_⟩
  simp[Rx.ay,fA]at hy
  exact hy.symm
 |alt a b=>intro n h;cases h
 |rep k a=>intro n h;cases h
 |cat a b iha ihb=>
  intro n h x hx
  simp only[Rx.lin,ag]at h
  have ha:=a.bL
  have hb:=b.bL
  have hin:∀ (t:Rx) (m x:Nat),x∈fA (t.ay m)->m<=x/\x<m+2*t.len:=by
   intro t m x hx
   unfold fA at hx
   obtain⟨e,he,rfl⟩:=gL.1 hx
   have:=t.dN m e (nY.1 he).1
   omega
  have hT:fA ((Rx.cat a b).ay n)=fA (a.ay n)++fA (b.ay (n+2*a.len)):=by
   simp only[Rx.ay,ib]
   simp[fA,fE]
  have la:∀ x,x∈fA (a.ay n)->(Rx.cat a b).lvl n x=a.lvl n x:=λx hx=>by
   have:=hin a n x hx
   rw[Rx.lvl,if_pos (by omega)]
  have lb:∀ x,x∈fA (b.ay (n+2*a.len))->(Rx.cat a b).lvl n x=a.dw+b.lvl (n+2*a.len) x:=λx hx=>by
   have:=hin b _ x hx
   rw[Rx.lvl,if_neg (by omega),if_pos (by omega)]
  rw[hT]at hx |-
  simp only[Rx.dw]
  rcases ar.1 hx with hx|hx
  ·obtain⟨q1,q2,q3⟩:=iha n h.1 x hx
   rw[la x hx]
   refine⟨q1,by omega,λy hy hxy=>?_⟩
   rcases ar.1 hy with hy|hy
   ·rw[la y hy]at hxy;exact q3 y hy hxy
   ·rw[lb y hy]at hxy
    have:=(ihb _ h.2 y hy).1
    omega
  ·obtain⟨q1,q2,q3⟩:=ihb _ h.2 x hx
   rw[lb x hx]
   refine⟨by omega,by omega,λy hy hxy=>?_⟩
   rcases ar.1 hy with hy|hy
   ·rw[la y hy]at hxy
    have:=(iha n h.1 y hy).2.1
    omega
   ·rw[lb y hy]at hxy;exact q3 y hy (by omega)
def Rx.pre:Rx->Nat->Nat->Bool
 |.eps,n,q=>decide (q=n)
 |.set _,n,q=>decide (q=n)
 |.cat a b,n,q=>decide (q=n+2*(a.len+b.len))||a.pre n q
 |.alt a b,n,q=>decide (q=n+2*(a.len+b.len))||a.pre n q
 |.rep k a,n,q=>decide (q=n+2*a.len)||(decide (k=6)&&a.pre n q)
theorem Rx.pd:∀ (t:Rx) (n q:Nat),t.pre n q=true->n<=q/\q<n+2*t.len:=by
 intro t
 induction t with
 |eps=>intro n q h;simp only[Rx.pre,decide_eq_true_eq]at h;simp only[Rx.len];omega
 |set S=>intro n q h;simp only[Rx.pre,decide_eq_true_eq]at h;simp only[Rx.len];omega
 |cat a b iha ihb=>
  intro n q h
  simp only[Rx.pre,aG,decide_eq_true_eq]at h
  simp only[Rx.len]
  rcases h with h|h
  ·omega
  ·have:=iha n q h;omega
 |alt a b iha ihb=>
  intro n q h
  simp only[Rx.pre,aG,decide_eq_true_eq]at h
  simp only[Rx.len]
  rcases h with h|h
  ·omega
  ·have:=iha n q h;omega
 |rep k a ih=>
  intro n q h
  simp only[Rx.pre,aG,ag,decide_eq_true_eq]at h
  simp only[Rx.len]
  rcases h with h|h
  ·omega
  ·have:=ih n q h.2;omega
theorem Rx.Jd:∀ (t:Rx) (n:Nat),∀ e∈t.ay n,t.pre n e.2.1=true->e.2.2.2=true/\t.pre n e.1=true:=by
 intro t
 induction t with
 |eps=>intro n e he h;simp[Rx.ay,fE]at he;subst he;simp[Rx.pre]at h
 |set S=>intro n e he h;simp[Rx.ay]at he;subst he;simp[Rx.pre]at h
 |cat a b iha ihb=>
  intro n e he h
  have ha:=a.bL
  have hb:=b.bL
  simp only[Rx.ay,ar,aA,cq,or_false]at he
  simp only[Rx.pre,aG,decide_eq_true_eq]at h |-
  rcases he with(he|he)|he|he|he
  ·have hi:=a.dN n e he
   obtain⟨q1,q2⟩:=iha n e he (h.resolve_left (by omega))
   exact⟨q1,.inr q2⟩
  ·have hi:=b.dN _ e he
   rcases h with h|h
   ·omega
   ·have:=a.pd n _ h;omega
  ·subst he;exact⟨rfl,.inl rfl⟩
  ·subst he
   have hi:=b.pc (n+2*a.len)
   rcases h with h|h
   ·simp only[fE]at h;omega
   ·have:=a.pd n _ h;simp only[fE]at this;omega
  ·subst he
   rcases h with h|h
   ·simp only[fE]at h;omega
   ·have:=a.pd n _ h;simp only[fE]at this;omega
 |alt a b iha ihb=>
  intro n e he h
  have ha:=a.bL
  have hb:=b.bL
  simp only[Rx.ay,ar,aA,cq,or_false]at he
  simp only[Rx.pre,aG,decide_eq_true_eq]at h |-
  rcases he with(he|he)|he|he|he|he
  ·have hi:=a.dN n e he
   obtain⟨q1,q2⟩:=iha n e he (h.resolve_left (by omega))
   exact⟨q1,.inr q2⟩
  ·have hi:=b.dN _ e he
   rcases h with h|h
   ·omega
   ·have:=a.pd n _ h;omega
  ·subst he;exact⟨rfl,.inl rfl⟩
  ·subst he
   rcases h with h|h
   ·simp only[fE]at h;omega
   ·have:=a.pd n _ h;simp only[fE]at this;omega
  ·subst he;exact⟨rfl,.inl rfl⟩
  ·subst he
   rcases h with h|h
   ·simp only[fE]at h;omega
   ·have:=a.pd n _ h;simp only[fE]at this;omega
 |rep k a ih=>
  intro n e he h
  have ha:=a.bL
  simp only[Rx.ay,ar,aA,cq,or_false]at he
  simp only[Rx.pre,aG,ag,decide_eq_true_eq]at h |-
  rcases he with((he|he|he)|he)|he
  ·have hi:=a.dN n e he
   have h:=h.resolve_left (by omega)
   obtain⟨q1,q2⟩:=ih n e he h.2
   exact⟨q1,.inr ⟨h.1,q2⟩⟩
  ·subst he;exact⟨rfl,.inl rfl⟩
  ·subst he
   rcases h with h|h
   ·simp only[fE]at h;omega
   ·have:=a.pd n _ h.2;simp only[fE]at this;omega
  ·split at he
   ·simp at he
   ·rename_i hk
    simp only[aS]at he
    subst he
    rcases h with h|h
    ·have:=a.pc n;simp only[fE]at h;omega
    ·exact absurd h.1 hk
  ·split at he
   ·simp at he
   ·simp only[aS]at he
    subst he
    exact⟨rfl,.inl rfl⟩
theorem Rx.Je:∀ (t:Rx) (n:Nat),t.lf=true->∃ r,fA (t.ay n)=(n+1)::r/\t.pre n n=true/\∀ e∈t.ay n,e.2.2.2=false->e.2.1=n+1->e.1=n:=by
 intro t
 induction t with
 |eps=>intro n h;cases h
 |set S=>intro n _;exact⟨[],rfl,by simp[Rx.pre],λe he _ _=>by simp[Rx.ay]at he;subst he;rfl⟩
 |cat a b iha ihb=>
  intro n h
  have ha:=a.bL
  obtain⟨r,q1,q2,q3⟩:=iha n h
  refine⟨r++fA (b.ay (n+2*a.len)),?_,by simp[Rx.pre,q2],λe he hf ht=>?_⟩
  ·simp only[Rx.ay,ib,q1];simp[fA,fE]
  ·simp only[Rx.ay,ar,aA,cq,or_false]at he
   rcases he with(he|he)|he|he|he
   ·exact q3 e he hf ht
   ·have:=b.dN _ e he;omega
   all_goals (subst he;cases hf)
 |alt a b iha ihb=>
  intro n h
  have ha:=a.bL
  obtain⟨r,q1,q2,q3⟩:=iha n h
  refine⟨r++fA (b.ay (n+2*a.len)),?_,by simp[Rx.pre,q2],λe he hf ht=>?_⟩
  ·simp only[Rx.ay,ib,q1];simp[fA,fE]
  ·simp only[Rx.ay,ar,aA,cq,or_false]at he
   rcases he with(he|he)|he|he|he|he
   ·exact q3 e he hf ht
   ·have:=b.dN _ e he;omega
   all_goals (subst he;cases hf)
 |rep k a ih=>
  intro n h
  simp only[Rx.lf,ag,decide_eq_true_eq]at h
  obtain⟨rfl,h⟩:=h
  obtain⟨r,q1,q2,q3⟩:=ih n h
  refine⟨r,?_,by simp[Rx.pre,q2],λe he hf ht=>?_⟩
  ·simp only[Rx.ay,ib,q1];simp[fA,fE]
  ·simp only[Rx.ay,ar,aA,cq,or_false]at he
   rcases he with((he|he|he)|he)|he
   ·exact q3 e he hf ht
   ·subst he;cases hf
   ·subst he;cases hf
   ·simp at he
   ·simp at he;subst he;cases hf
end
noncomputable section
inductive Rch(t:Rx):(Nat->Bool)->Prop
 |ini {g:Nat->Bool} (h:gQ (t.ay 0) (λx=>decide (x=t.fst 0)) g):Rch t g
 |step {f g:Nat->Bool} {c:Nat} (hc:c<256) (hf:Rch t f) (h:gQ (t.ay 0) (a8 (t.ay 0) f c) g):Rch t g
theorem fw{E:List Ed}{f:Nat->Bool}{c x:Nat}:a8 E f c x=true↔∃ e∈E,e.2.2.2=false/\f e.1=true/\hasB e.2.2.1 c=true/\x=e.2.1:=by
 unfold a8
 rw[gJ]
 simp only[ag,bu,decide_eq_true_eq]
theorem Rch.UI{t:Rx}{g:Nat->Bool}(h:Rch t g):RG (t.ay 0) (λx=>decide (x=t.fst 0)) g:=by
 cases h with
 |ini h=>exact .inl h
 |step _ _ h=>exact .inr ⟨_,_,h⟩
theorem Rch.lvl{t:Rx}(hl:t.lin=true){g:Nat->Bool}(h:Rch t g):∃ m,∀ q,g q=true->t.lvl 0 q=m:=by
 have clo:∀ m,mq (t.ay 0) (λq=>decide (t.lvl 0 q=m)):=by
  intro m e he hf h
  have:=t.AB 0 hl e he
  rw[hf]at this
  simp only[decide_eq_true_eq]at h |-
  simp at this
  omega
 induction h with
 |ini h=>
  refine⟨0,λq hq=>?_⟩
  have:=h.2.2 _ (clo 0) (λx hx=>by
   rw[decide_eq_true_eq]at hx
   subst hx
   simpa using t.ya 0) q hq
  simpa using this
 |step hc hf h ih=>
  obtain⟨m,ih⟩:=ih
  refine⟨m+1,λq hq=>?_⟩
  have:=h.2.2 _ (clo (m+1)) (λx hx=>by
   obtain⟨e,he,h1,h2,_,rfl⟩:=fw.1 hx
   have:=t.AB 0 hl e he
   rw[h1,ih _ h2]at this
   simpa using this) q hq
  simpa using this
theorem Jf{t:Rx}(hl:t.lin=true)(l:List (Nat->Bool))(hn:l.Nodup)(h:∀ g∈l,Rch t g):l.length<=t.dw+3:=by
 refine rE (λ(g:Nat->Bool) (k:Nat)=>(k=0/\gQ (t.ay 0) (λx=>decide (x=t.fst 0)) g)\/(k=1/\gQ (t.ay 0) (λ_=>false) g)\/
  (∃ f x,gQ (t.ay 0) f g/\x∈fA (t.ay 0)/\(∀ y,f y=true↔y=x)/\k=t.lvl 0 x+2)) ?_ (t.dw+3) l hn ?_
 ·rintro a b k (⟨rfl,h1⟩|⟨rfl,h1⟩|⟨f,x,h1,h2,h3,rfl⟩) (⟨e,g1⟩|⟨e,g1⟩|⟨f',x',g1,g2,g3,e⟩)
  ·exact eX h1 g1
  ·omega
  ·omega
  ·omega
  ·exact eX h1 g1
  ·omega
  ·omega
  ·omega
  ·have:x=x':=(t.DR 0 hl x h2).2.2 x' g2 (by omega)
   subst this
   have:f=f':=by
    funext y
    rw[cd,h3,g3]
   rw[this]at h1
   exact eX h1 g1
 ·intro g hg
  have hr:=h g hg
  cases hr with
  |ini h=>exact⟨0,by omega,.inl ⟨rfl,h⟩⟩
  | @step f g c hc hf h=>
   by_cases hx:∃ x,a8 (t.ay 0) f c x=true
   ·obtain⟨x,hx⟩:=hx
    have hxt:=oF hx
    have hb:=t.DR 0 hl x hxt
    refine⟨t.lvl 0 x+2,by omega,.inr (.inr ⟨_,x,h,hxt,λy=>⟨λhy=>?_,λe=>e ▸ hx⟩,rfl⟩)⟩
    obtain⟨m,hm⟩:=(Rch.step hc hf h).lvl hl
    have e1:=hm _ (h.1 _ hx)
    have e2:=hm _ (h.1 _ hy)
    exact(hb.2.2 y (oF hy) (by omega)).symm
   ·refine⟨1,by omega,.inr (.inl ⟨rfl,?_⟩)⟩
    have:a8 (t.ay 0) f c=λ_=>false:=by
     funext x
     cases hs:a8 (t.ay 0) f c x
     ·rfl
     ·exact absurd ⟨x,hs⟩ hx
    rw[this]at h
    exact h
theorem AD{t:Rx}{f g:Nat->Bool}{c:Nat}(h:gQ (t.ay 0) (a8 (t.ay 0) f c) g):∀ q,t.pre 0 q=true->g q=false:=by
 intro q hq
 have:=h.2.2 (λq=>!t.pre 0 q) (λe he hf hp=>by
  simp only[bu]at hp |-
  cases hc:t.pre 0 e.2.1
  ·rfl
  ·rw[(t.Jd 0 e he hc).2]at hp;cases hp) (λx hx=>by
  obtain⟨e,he,h1,_,_,rfl⟩:=fw.1 hx
  simp only[bu]
  cases hc:t.pre 0 e.2.1
  ·rfl
  ·rw[(t.Jd 0 e he hc).1]at h1;cases h1) q
 cases hg:g q
 ·rfl
 ·have:=this hg
  simp[hq]at this
theorem RJ{t:Rx}(hl:t.lf=true)(l:List (Nat->Bool))(hn:l.Nodup)(h:∀ g∈l,Rch t g):l.length<=257+2 ^ (t.dw-1):=by
 obtain⟨r,q1,q2,q3⟩:=t.Je 0 hl
 have hrl:r.length=t.dw-1:=by
  have:=uF t 0
  rw[q1]at this
  simp at this
  omega
 refine rE (λ(g:Nat->Bool) (k:Nat)=>(k=0/\gQ (t.ay 0) (λx=>decide (x=t.fst 0)) g)\/(∃ c f,c<256/\gQ (t.ay 0) (λx=>decide (x=t.fst 0)) f/\gQ (t.ay 0) (a8 (t.ay 0) f c) g/\k=1+c)\/
  (∃ f c,gQ (t.ay 0) (a8 (t.ay 0) f c) g/\a8 (t.ay 0) f c 1=false/\k=257+dK (r.map (a8 (t.ay 0) f c)))) ?_ (257+2 ^ (t.dw-1)) l hn ?_
 ·rintro a b k (⟨rfl,h1⟩|⟨c,f,hc,h0,h1,rfl⟩|⟨f,c,h1,h2,rfl⟩) (⟨e,g1⟩|⟨c',f',hc',g0,g1,e⟩|⟨f',c',g1,g2,e⟩)
  ·exact eX h1 g1
  ·omega
  ·omega
  ·omega
  ·have:c=c':=by omega
   subst this
   rw[eX h0 g0]at h1
   exact eX h1 g1
  ·omega
  ·omega
  ·omega
  ·have hb:=oB (r.map (a8 (t.ay 0) f c)) (r.map (a8 (t.ay 0) f' c')) (by simp) (by omega)
   have:onT (t.ay 0) (a8 (t.ay 0) f c)=onT (t.ay 0) (a8 (t.ay 0) f' c'):=by
    unfold onT
    rw[q1]
    simp only[fu,eC]
    rw[h2,g2,hb]
   rw[rP this]at h1
   exact eX h1 g1
 ·intro g hg
  have hr:=h g hg
  cases hr with
  |ini h=>exact⟨0,by have:=aH (2 ^ (t.dw-1));omega,.inl ⟨rfl,h⟩⟩
  | @step f g c hc hf h=>
   cases hf with
   |ini h0=>exact⟨1+c,by have:=aH (2 ^ (t.dw-1));omega,.inr (.inl ⟨c,f,hc,h0,h,rfl⟩)⟩
   | @step f0 f c0 hc0 hf0 h0=>
    have hb:=lE (r.map (a8 (t.ay 0) f c))
    rw[bR,hrl]at hb
    refine⟨_,?_,.inr (.inr ⟨f,c,h,?_,rfl⟩)⟩
    ·omega
    ·cases hs:a8 (t.ay 0) f c 1
     ·rfl
     ·obtain⟨e,he,h1,h2,_,h3⟩:=fw.1 hs
      rw[q3 e he h1 (by omega),AD h0 0 q2]at h2
      cases h2
def Bq(k:Int)(S0 S1 S2:List Int):Rx:=.cat (.cat (.rep k (.set S0)) (.set S1)) (.set S2)
theorem gp{k:Int}(hk:k≠6){S0 S1 S2:List Int}{e:Ed}:e∈(Bq k S0 S1 S2).ay 0↔e=(0,1,S0,false)\/e=fE 2 0\/e=fE 1 3\/e=fE 1 0\/(k≠5/\e=fE 2 3)\/e=(4,5,S1,false)\/e=fE 6 2\/e=fE 3 4\/e=fE 5 7\/e=(8,9,S2,false)\/e=fE 10 6\/e=fE 7 8\/e=fE 9 11:=by
 by_cases h5:k=5
 ·simp[Bq,Rx.ay,Rx.len,Rx.fst,Rx.lst,hk,h5,or_assoc]
 ·simp[Bq,Rx.ay,Rx.len,Rx.fst,Rx.lst,hk,h5,or_assoc]
structure LqB(t:Rx)(k:Int)(S0 S1 S2:List Int):Prop where
 hk:k≠6
 sm:rQ S0
 tg:∃ r,fA (t.ay 0)=1::5::9::r
 ed:∀ e∈t.ay 0,e.2.1<12->e.2.1≠10->e∈(Bq k S0 S1 S2).ay 0
 sub:∀ e∈(Bq k S0 S1 S2).ay 0,e∈t.ay 0
 len:6<=t.len
 p2:t.pre 0 2=true
 c8:t.cl 0 8=false
 nl:t.null=false
theorem Lq.bot{t:Rx}(h:t.Lq)(h3:3<=t.dw):∃ k S0 S1 S2,LqB t k S0 S1 S2:=by
 induction h with
 |rep hk hS=>simp[Rx.dw]at h3
 | @cat a S ha ih=>
  by_cases h3':3<=a.dw
  ·obtain⟨k,S0,S1,S2,b⟩:=ih h3'
   obtain⟨r,hr⟩:=b.tg
   have hl:=b.len
   refine⟨k,S0,S1,S2,b.hk,b.sm,⟨r++fA ((Rx.set S).ay (0+2*a.len)),?_⟩,λe he h1 h2=>?_,λe he=>?_,?_,?_,?_,?_⟩
   ·simp only[Rx.ay,ib,hr];simp[fA,fE]
   ·simp only[Rx.ay,ar,aA,cq,or_false]at he
    rcases he with(he|he)|he|he|he
    ·exact b.ed e he h1 h2
    ·subst he;simp at h1;omega
    ·subst he;simp only[fE,Rx.fst]at h1 h2;omega
    ·subst he;simp only[fE,Rx.fst,Rx.len]at h1 h2;omega
    ·subst he;simp only[fE,Rx.len]at h1 h2;omega
   ·simp only[Rx.ay,ar]
    exact .inl (.inl (b.sub e he))
   ·simp only[Rx.len];omega
   ·simp only[Rx.pre,b.p2,fv]
   ·simp only[Rx.cl,b.c8,b.nl,Rx.len,Rx.null]
    simp
    omega
   ·simp[Rx.null]
  ·cases ha with
   |rep hk hS=>simp[Rx.dw]at h3
   | @cat a' S' ha'=>
    cases ha' with
    | @rep k S0 hk hS=>
     refine⟨k,S0,S',S,hk,hS,⟨[],?_⟩,λe he _ _=>he,λe he=>he,by simp[Rx.len],by simp[Rx.pre,Rx.len],by simp[Rx.cl,Rx.len,Rx.null],by simp[Rx.null]⟩
     simp only[Rx.ay,ib]
     by_cases h5:k=5 <;> simp[fA,fE,Rx.len,hk,h5]
    |cat h=>
     exfalso
     cases h <;> simp[Rx.dw]at h3' h3 <;> omega
section
variable {t:Rx} {k:Int} {S0 S1 S2:List Int}
theorem LqB.at1(b:LqB t k S0 S1 S2){h:Nat->Bool}{c:Nat}(hs:a8 (t.ay 0) h c 1=true):h 0=true/\hasB S0 c=true:=by
 obtain⟨e,he,h1,h2,h3,h4⟩:=fw.1 hs
 have:=b.ed e he (by omega) (by omega)
 rw[gp b.hk]at this
 rcases this with rfl|rfl|rfl|rfl|⟨_,rfl⟩|rfl|rfl|rfl|rfl|rfl|rfl|rfl|rfl <;> simp[fE]at h1 h4
 exact⟨h2,h3⟩
theorem LqB.at5(b:LqB t k S0 S1 S2){h:Nat->Bool}{c:Nat}(hs:a8 (t.ay 0) h c 5=true):h 4=true/\hasB S1 c=true:=by
 obtain⟨e,he,h1,h2,h3,h4⟩:=fw.1 hs
 have:=b.ed e he (by omega) (by omega)
 rw[gp b.hk]at this
 rcases this with rfl|rfl|rfl|rfl|⟨_,rfl⟩|rfl|rfl|rfl|rfl|rfl|rfl|rfl|rfl <;> simp[fE]at h1 h4
 exact⟨h2,h3⟩
theorem LqB.at9(b:LqB t k S0 S1 S2){h:Nat->Bool}{c:Nat}(hs:a8 (t.ay 0) h c 9=true):h 8=true:=by
 obtain⟨e,he,h1,h2,h3,h4⟩:=fw.1 hs
 have:=b.ed e he (by omega) (by omega)
 rw[gp b.hk]at this
 rcases this with rfl|rfl|rfl|rfl|⟨_,rfl⟩|rfl|rfl|rfl|rfl|rfl|rfl|rfl|rfl <;> simp[fE]at h1 h4
 exact h2
theorem LqB.no(b:LqB t k S0 S1 S2){h:Nat->Bool}{c q:Nat}(hq:q=0\/q=3\/q=4\/q=7\/q=8):a8 (t.ay 0) h c q=false:=by
 cases hs:a8 (t.ay 0) h c q
 ·rfl
 ·exfalso
  obtain⟨e,he,h1,h2,h3,h4⟩:=fw.1 hs
  have:=b.ed e he (by omega) (by omega)
  rw[gp b.hk]at this
  rcases this with rfl|rfl|rfl|rfl|⟨_,rfl⟩|rfl|rfl|rfl|rfl|rfl|rfl|rfl|rfl <;> simp[fE]at h1 h4 <;> omega
theorem LqB.free(b:LqB t k S0 S1 S2){e:Ed}(he:e∈t.ay 0)(hf:e.2.2.2=true)(hq:e.2.1<10):e.2.1=0/\(e.1=1\/e.1=2)\/e.2.1=3/\(e.1=1\/e.1=2)\/e.2.1=2\/e.2.1=6\/e.2.1=4/\e.1=3\/e.2.1=7/\e.1=5\/e.2.1=8/\e.1=7:=by
 have:=b.ed e he (by omega) (by omega)
 rw[gp b.hk]at this
 rcases this with rfl|rfl|rfl|rfl|⟨_,rfl⟩|rfl|rfl|rfl|rfl|rfl|rfl|rfl|rfl <;> simp[fE]at hf hq |-
theorem LqB.r8(b:LqB t k S0 S1 S2){h f:Nat->Bool}{c:Nat}(hc:gQ (t.ay 0) (a8 (t.ay 0) f c) h)(h8:h 8=true):a8 (t.ay 0) f c 5=true:=by
 cases h5:a8 (t.ay 0) f c 5
 ·exfalso
  have:=hc.2.2 (λq=>!(decide (q=5)||(decide (q=7)||decide (q=8)))) (λe he hf hd=>by
   cases hx:(decide (e.2.1=5)||(decide (e.2.1=7)||decide (e.2.1=8)))
   ·show(!_)=true
    rw[hx];rfl
   ·exfalso
    simp only[aG,decide_eq_true_eq]at hx
    have:=b.free he hf (by omega)
    simp at hd
    omega) (λx hx=>by
   cases hy:(decide (x=5)||(decide (x=7)||decide (x=8)))
   ·show(!_)=true
    rw[hy];rfl
   ·exfalso
    simp only[aG,decide_eq_true_eq]at hy
    rcases hy with rfl|rfl|rfl
    ·rw[h5]at hx;cases hx
    ·rw[b.no (by omega)]at hx;cases hx
    ·rw[b.no (by omega)]at hx;cases hx) 8 h8
  simp at this
 ·rfl
theorem LqB.r1(b:LqB t k S0 S1 S2){h f:Nat->Bool}{c:Nat}(hc:gQ (t.ay 0) (a8 (t.ay 0) f c) h)(h8:h 4=true\/h 0=true):a8 (t.ay 0) f c 1=true:=by
 cases h5:a8 (t.ay 0) f c 1
 ·exfalso
  have hp:=AD hc 2 b.p2
  have key:=hc.2.2 (λq=>h q&&!(decide (q=1)||(decide (q=3)||(decide (q=4)||decide (q=0))))) (λe he hf hd=>by
   simp only[ag]at hd |-
   refine⟨hc.2.1 e he hf hd.1,?_⟩
   cases hx:(decide (e.2.1=1)||(decide (e.2.1=3)||(decide (e.2.1=4)||decide (e.2.1=0))))
   ·rfl
   ·exfalso
    simp only[aG,decide_eq_true_eq]at hx
    have:=b.free he hf (by omega)
    have h2:e.1≠2:=λe2=>by have h1:=hd.1;rw[e2,hp]at h1;cases h1
    have h3:=hd.2
    simp at h3
    omega) (λx hx=>by
   simp only[ag]
   refine⟨hc.1 x hx,?_⟩
   cases hy:(decide (x=1)||(decide (x=3)||(decide (x=4)||decide (x=0))))
   ·rfl
   ·exfalso
    simp only[aG,decide_eq_true_eq]at hy
    rcases hy with rfl|rfl|rfl|rfl
    ·rw[h5]at hx;cases hx
    ·rw[b.no (by omega)]at hx;cases hx
    ·rw[b.no (by omega)]at hx;cases hx
    ·rw[b.no (by omega)]at hx;cases hx)
  rcases h8 with h8|h8
  ·have:=key 4 h8;simp at this
  ·have:=key 0 h8;simp at this
 ·rfl
theorem LqB.DS(b:LqB t k S0 S1 S2){h:Nat->Bool}(hr:Rch t h)(h8:h 8=true):∃ f c,c<256/\gQ (t.ay 0) (a8 (t.ay 0) f c) h:=by
 cases hr with
 |ini hi=>
  exfalso
  have:=hi.2.2 (t.cl 0) (λe he hf hp=>t.Dr 0 e he hf hp) (λx hx=>by
   rw[decide_eq_true_eq]at hx
   rw[hx];exact t.nA 0) 8 h8
  rw[b.c8]at this
  cases this
 |step hc _ hi=>exact⟨_,_,hc,hi⟩
theorem LqB.X(b:LqB t k S0 S1 S2){h:Nat->Bool}(hr:Rch t h){c:Nat}(hc:c<256)(h1:a8 (t.ay 0) h c 1=false)(h5:a8 (t.ay 0) h c 5=true)(h9:a8 (t.ay 0) h c 9=true):hasB S0 c=false:=by
 obtain⟨f,c',hc',hi⟩:=b.DS hr (b.at9 h9)
 have f1:=b.r1 hi (.inl (b.at5 h5).1)
 have g1:=hi.1 _ f1
 have g0:=hi.2.1 (fE 1 0) (b.sub _ ((gp b.hk).2 (by simp))) rfl g1
 cases hs:hasB S0 c
 ·rfl
 ·have:a8 (t.ay 0) h c 1=true:=fw.2 ⟨(0,1,S0,false),b.sub _ ((gp b.hk).2 (by simp)),rfl,g0,hs,rfl⟩
  rw[h1]at this;cases this
theorem LqB.Y(b:LqB t k S0 S1 S2){h:Nat->Bool}(hr:Rch t h){c:Nat}(hc:c<256)(h1:a8 (t.ay 0) h c 1=true)(h5:a8 (t.ay 0) h c 5=false)(h9:a8 (t.ay 0) h c 9=true):∃ d d',d<256/\d' < 256/\d≠d'/\hasB S0 d=true/\hasB S0 d'=true:=by
 obtain⟨f,c',hc',hi⟩:=b.DS hr (b.at9 h9)
 have f5:=b.r8 hi (b.at9 h9)
 have f1:=b.r1 hi (.inr (b.at1 h1).1)
 have g1:=hi.1 _ f1
 have g3:=hi.2.1 (fE 1 3) (b.sub _ ((gp b.hk).2 (by simp))) rfl g1
 have g4:=hi.2.1 (fE 3 4) (b.sub _ ((gp b.hk).2 (by simp))) rfl g3
 refine⟨c,c',hc,hc',?_,(b.at1 h1).2,(b.at1 f1).2⟩
 rintro rfl
 have:a8 (t.ay 0) h c 5=true:=fw.2 ⟨(4,5,S1,false),b.sub _ ((gp b.hk).2 (by simp)),rfl,g4,(b.at5 f5).2,rfl⟩
 rw[h5]at this;cases this
theorem LqB.M1(b:LqB t k S0 S1 S2){d d' c:Nat}(hc:c<256)(hX:hasB S0 c=false)(hd:d<256)(hd':d' < 256)(hne:d≠d')(h1:hasB S0 d=true)(h2:hasB S0 d'=true):False:=by
 rcases b.sm with h|⟨v,h⟩
 ·rw[h,qd _ hc]at hX;cases hX
 ·rw[h,qd _ hd]at h1
  rw[h,qd _ hd']at h2
  unfold rG at h1 h2
  simp only[decide_eq_true_eq]at h1 h2
  omega
theorem Jg{E:List Ed}{f0:Nat->Bool}{r:List Nat}(hr:fA E=1::5::9::r)(x0 x1 x2:Bool)(l:List (Nat->Bool))(hn:l.Nodup)(h:∀ g∈l,gQ E f0 g\/∃ f c,gQ E (a8 E f c) g/\¬(a8 E f c 1=x0/\a8 E f c 5=x1/\a8 E f c 9=x2)):l.length<=1+7*2 ^ r.length:=by
 have code:∀ (p v:Nat),v % 8≠p->p<8->(if v % 8<p then v % 8 else v % 8-1)<7:=by intro p v h1 h2;split <;> omega
 refine rE (λ(g:Nat->Bool) (k:Nat)=>(k=0/\gQ E f0 g)\/(∃ f c,gQ E (a8 E f c) g/\dK (onT E (a8 E f c)) % 8≠dK [x0,x1,x2]/\
  k=1+(7*(dK (onT E (a8 E f c)) / 8)+(if dK (onT E (a8 E f c)) % 8<dK [x0,x1,x2]then dK (onT E (a8 E f c)) % 8 else dK (onT E (a8 E f c)) % 8-1)))) ?_ (1+7*2 ^ r.length) l hn ?_
 ·have hp:dK [x0,x1,x2]<8:=lE [x0,x1,x2]
  rintro a b k (⟨rfl,h1⟩|⟨f,c,h1,h2,rfl⟩) (⟨e,g1⟩|⟨f',c',g1,g2,e⟩)
  ·exact eX h1 g1
  ·omega
  ·omega
  ·have hb:dK (onT E (a8 E f c))=dK (onT E (a8 E f' c')):=by
    generalize dK (onT E (a8 E f c))=u at *
    generalize dK (onT E (a8 E f' c'))=v at *
    generalize dK [x0,x1,x2]=p at *
    have c1:=code p u h2 hp
    have c2:=code p v g2 hp
    have e1:u / 8=v / 8:=by omega
    have e2:u % 8=v % 8:=by
     split at e <;> split at e <;> omega
    omega
   rw[rP (oB _ _ (by rw[qe,qe]) hb)]at h1
   exact eX h1 g1
 ·intro g hg
  rcases h g hg with h|⟨f,c,h1,h2⟩
  ·exact⟨0,by omega,.inl ⟨rfl,h⟩⟩
  ·have hp:dK [x0,x1,x2]<8:=lE [x0,x1,x2]
   have hv:dK (onT E (a8 E f c))=dK [a8 E f c 1,a8 E f c 5,a8 E f c 9]+8*dK (r.map (a8 E f c)):=by
    unfold onT
    rw[hr]
    simp only[fu,dK]
    omega
   have h3:dK [a8 E f c 1,a8 E f c 5,a8 E f c 9]<8:=lE [a8 E f c 1,a8 E f c 5,a8 E f c 9]
   have hm:dK (onT E (a8 E f c)) % 8≠dK [x0,x1,x2]:=by
    intro e
    have e3:dK [a8 E f c 1,a8 E f c 5,a8 E f c 9]=dK [x0,x1,x2]:=by omega
    have:=oB [a8 E f c 1,a8 E f c 5,a8 E f c 9] [x0,x1,x2] rfl e3
    injection this with a1 a2
    injection a2 with a2 a3
    injection a3 with a3
    exact h2 ⟨a1,a2,a3⟩
   have hrl:=lE (r.map (a8 E f c))
   rw[bR]at hrl
   have hc:=code _ _ hm hp
   refine⟨_,?_,.inr ⟨f,c,h1,hm,rfl⟩⟩
   omega
theorem RK(b:LqB t k S0 S1 S2)(l:List (Nat->Bool))(hn:l.Nodup)(h:∀ g∈l,Rch t g):l.length<=1+7*2 ^ (t.dw-3):=by
 obtain⟨r,hr⟩:=b.tg
 have hrl:r.length=t.dw-3:=by
  have:=uF t 0
  rw[hr]at this
  simp at this
  omega
 rw[<-hrl]
 by_cases hX:∃ c,c<256/\hasB S0 c=false
 ·obtain⟨c0,hc0,hX⟩:=hX
  refine Jg (f0:=λx=>decide (x=t.fst 0)) hr true false true l hn (λg hg=>?_)
  have hr:=h g hg
  cases hr with
  |ini h=>exact .inl h
  | @step f g c hc hf h=>
   refine .inr ⟨f,c,h,λ⟨a1,a2,a3⟩=>?_⟩
   obtain⟨d,d',q1,q2,q3,q4,q5⟩:=b.Y hf hc a1 a2 a3
   exact b.M1 hc0 hX q1 q2 q3 q4 q5
 ·refine Jg (f0:=λx=>decide (x=t.fst 0)) hr false true true l hn (λg hg=>?_)
  have hr:=h g hg
  cases hr with
  |ini h=>exact .inl h
  | @step f g c hc hf h=>
   refine .inr ⟨f,c,h,λ⟨a1,a2,a3⟩=>hX ⟨c,hc,b.X hf hc a1 a2 a3⟩⟩
end
theorem Gj{t:Rx}(hw:t.wt<=12)(l:List (Nat->Bool))(hn:l.Nodup)(h:∀ g∈l,Rch t g):l.length<=2000:=by
 have ho:=t.fX
 rcases ap t.dw 11 with h10|h11
 ·have:=MV (E:=t.ay 0) l hn (λg hg=>(h g hg).UI)
  rw[uF]at this
  have h2:2 ^ t.dw<=2 ^ 10:=iu (by omega) (by omega)
  omega
 ·rcases ap t.dw 12 with h12|h12
  ·have h1:t.dw=11:=by omega
   rcases PE t (by omega)with hl|hl|hl
   ·have:=Jf hl l hn h;omega
   ·have:=RJ hl l hn h
    rw[h1]at this
    omega
   ·obtain⟨k,S0,S1,S2,b⟩:=Lq.bot hl (by omega)
    have:=RK b l hn h
    rw[h1]at this
    omega
  ·have:=Jf (uH t (by omega)).2.1 l hn h
   omega
end
noncomputable section
theorem Jh(d)(q:Int):L4 N0 (d,(q,([],())))=some ((q,()),()):=by
 unfold L4
 refine aZ (λm x r=>x=((),(q,((0:Int),())))/\r=some ((q,()),())) ?_ N0 0 _ _ (by unfold N0;omega) ⟨rfl,rfl⟩
 rintro m x r ⟨rfl,rfl⟩ k hk
 rfl
theorem Gk{d}{v:Int}(h:d.2.2[0]?=some v):L5 N0 (d,(0,()))=some ((v,()),()):=by
 have hl:0<d.2.2.length:=by
  rcases ap 0 d.2.2.length with h2|h2
  ·exact h2
  ·rw[bx h2]at h;cases h
 have g:d.2.2[((0:Int)).toNat]?=some v:=h
 unfold L5
 simp only
 refine aV ((),(false,())) (λK=>?_) ?_
 ·rw[show decide ((0:Int)<0)=false from rfl,cond_false,decide_eq_false (show ¬((d.2.2.length:Nat):Int)<=0 by omega)]
 ·simp only
  rw[cond_false,if_pos z0,g]
theorem Ji{d}{v:Int}(h:d.2.2[0]?=some v):L6 N0 (d,([],()))=some ((v,()),()):=by
 unfold L6
 simp only
 rw[ae (Jh d 0)]
 simp only
 rw[ae (Gk h)]
end
noncomputable section
theorem pe{s:List Int}{e:Int}(h:gd s=.error e):e=5\/e=6:=by
 unfold gd at h
 split at h
 ·injection h with h;omega
 split at h
 ·injection h with h;omega
 split at h
 ·injection h with h;omega
 split at h
 ·injection h with h;omega
 ·cases h
def UJ:List Int×(List (List Int)×List Int):=(List.replicate 256 0,([],[]))
theorem Jj{s:List Int}(hb:Bytes s)(hsm:s.length<=maxLen){e:Int}(h:gd s=.error e):BZ N0 (s,())=some ((UJ,(e,())),()):=by
 have he:=pe h
 unfold BZ
 simp only
 rw[ae (DC hb hsm),h]
 simp only[IU]
 rcases he with rfl|rfl <;> rfl
theorem M2{s:List Int}(hb:Bytes s)(hsm:s.length<=maxLen){t:Rx}(h:gd s=.ok t){d}{c:Int}(hd:Il N0 (nfT t,())=some ((d,(c,())),())):BZ N0 (s,())=some ((d,(c,())),()):=by
 obtain⟨h1,h2,h3⟩:=rM hb h
 unfold BZ
 simp only
 rw[ae (DC hb hsm),h]
 simp only[IU]
 rw[decide_true,aB,cond_false,ae (MI h1 h2)]
 simp only
 rw[decide_true,aB,cond_false,ae hd]
def mkJ(n j:Nat):List Int:=(List.range n).map λq=>if q<j then -1 else 0
theorem kv(n j:Nat):(mkJ n j).length=n:=by simp[mkJ]
theorem oG{n:Nat}(j:Nat){i:Nat}(h:i<n):(mkJ n j)[i]?=some (if i<j then -1 else 0):=by
 unfold mkJ
 rw[bX,dR h]
 rfl
theorem M3{n j:Nat}(h:j<n):(mkJ n j).set j (-1)=mkJ n (j+1):=by
 apply eA
 intro i
 rw[jB]
 by_cases hi:i<n
 ·rw[oG j hi,oG (j+1) hi]
  by_cases e:j=i
  ·subst e
   rw[if_pos rfl,if_pos (by rw[kv];exact h),if_pos (by omega)]
  ·rw[if_neg e]
   by_cases h2:i<j
   ·rw[if_pos h2,if_pos (by omega)]
   ·rw[if_neg h2,if_neg (by omega)]
 ·have e1:(mkJ n (j+1))[i]?=none:=bx (by rw[kv];omega)
  have e2:(mkJ n j)[i]?=none:=bx (by rw[kv];omega)
  rw[e1,e2,if_neg (by omega)]
theorem Jk{n last:Nat}(h:last<n):(mkJ n n).set last 0=mkL n last:=by
 apply eA
 intro i
 rw[jB]
 by_cases hi:i<n
 ·rw[oG n hi,DM last hi]
  by_cases e:last=i
  ·subst e
   rw[if_pos rfl,if_pos (by rw[kv];exact h),if_pos rfl]
  ·rw[if_neg e,if_pos hi,if_neg (λh=>e h.symm)]
 ·have e1:(mkL n last)[i]?=none:=bx (by rw[DL];omega)
  have e2:(mkJ n n)[i]?=none:=bx (by rw[kv];omega)
  rw[e1,e2,if_neg (by omega)]
theorem Jl(n:Nat):List.replicate n (0:Int)=mkJ n 0:=by
 apply eA
 intro i
 by_cases hi:i<n
 ·rw[oG 0 hi,kJ,if_pos hi,if_neg (by omega)]
 ·rw[bx (by rw[il];omega),bx (by rw[kv];omega)]
theorem M4{t:Rx}(hl:t.len<=400){d}{c:Int}(hd:Ik N0 (nfT t,(mkL (2*t.len) (t.lst 0),()))=some ((d,(c,())),())):Il N0 (nfT t,())=some ((d,(c,())),()):=by
 have wN:=t.kE 0
 have hn8:2*t.len<=800:=by omega
 have hN:(nfT t).1=((2*t.len:Nat):Int):=rfl
 have hL:(nfT t).2.2.2=((t.lst 0:Nat):Int):=rfl
 unfold Il
 simp only
 rw[ae (Aw hl)]
 simp only
 rw[aB,cond_false]
 simp only[hN,hL]
 generalize 2*t.len=n at *
 generalize t.lst 0=last at *
 have hln:last<n:=by omega
 rw[if_pos ⟨by omega,by omega⟩,if_pos (by rw[aa];omega),aa,Jl]
 generalize (List.replicate 256 (0:Int),(([]:List (List Int)),([]:List Int)))=Z
 refine aZ (λm x q=>∃ j:Nat,x=((Z,(mkJ n j,())),((j:Int),()))/\m+j=n/\q=some ((d,(c,())),())) ?_ N0 n _ _ (by unfold N0;omega) ⟨0,rfl,rfl,rfl⟩
 rintro m x q ⟨j,rfl,hm,rfl⟩ k hk
 simp only
 rcases ap j n with hj|hj
 ·have n0:(0:Int)<=(j:Int):=by omega
  rw[decide_eq_true (show(j:Int)<(((mkJ n 0).length:Nat):Int) by rw[kv];omega),cond_true,if_pos n0,aa,oG j hj]
  simp only
  rw[if_pos n0]
  rw[M3 hj,cY (by omega)]
  exact hk (m-1) _ _ (by omega) ⟨j+1,rfl,by omega,rfl⟩
 ·have:j=n:=by omega
  subst this
  have n0:(0:Int)<=(last:Int):=by omega
  rw[decide_eq_false (show ¬(j:Int)<(((mkJ j 0).length:Nat):Int) by rw[kv];omega),cond_false,if_pos n0,aa,oG j hln]
  simp only
  rw[if_pos n0]
  rw[Jk hln,ae hd]
end
noncomputable section
abbrev KM:=List (List Int×Int)
def eqK:List Int->List Int->Bool:=λa b=>decide (a=b)
theorem Jm(k k':List Int)(v:Int):∀ x:KM,fi eqK k (fe eqK k' v x)=(decide (k=k')||fi eqK k x):=by
 intro x
 induction x with
 |nil=>simp[fe,fi,eqK]
 |cons p r ih=>
  simp only[fe]
  by_cases e:k'=p.1
  ·have:eqK k' p.1=true:=decide_eq_true e
   rw[this,cond_true]
   simp only[fi]
   rw[<-e]
   by_cases e2:k=k'
   ·rw[show eqK k k'=true from decide_eq_true e2,decide_eq_true e2];rfl
   ·rw[show eqK k k'=false from decide_eq_false e2,decide_eq_false e2];rfl
  ·have:eqK k' p.1=false:=decide_eq_false e
   rw[this,cond_false]
   simp only[fi]
   by_cases e2:k=p.1
   ·rw[show eqK k p.1=true from decide_eq_true e2,cond_true,cond_true,fv]
   ·rw[show eqK k p.1=false from decide_eq_false e2,cond_false,cond_false,ih]
def Sup(n:Nat)(g:Nat->Bool):Prop:=∀ q,g q=true->q<n
theorem Sup.ext{n:Nat}{g g':Nat->Bool}(h:Sup n g)(h':Sup n g')(he:∀ i,i<n->g i=g' i):g=g':=by
 funext q
 by_cases hq:q<n
 ·exact he q hq
 ·cases h1:g q
  ·cases h2:g' q
   ·rfl
   ·exact absurd (h' q h2) hq
  ·exact absurd (h q h1) hq
theorem Sup.cut{n:Nat}{g:Nat->Bool}(h:Sup n g):Cf n g=g:=by
 funext q
 unfold Cf
 cases hg:g q
 ·simp
 ·simp[h q hg]
abbrev BI:=NfI×(List Int×(List Int×(KM×(List (List Bool)×(List Int×(List (List Int)×List Int))))))
structure BOk(N:NfI)(n last:Nat)(jr cls:List Int)(b:BI)(gs:List (Nat->Bool)):Prop where
 nf:b.1=N
 mks:b.2.1=mkL n last
 rp:b.2.2.1=jr
 key:∀ k,fi eqK k b.2.2.2.1=true↔∃ g∈gs,k=da n g
 dD:b.2.2.2.2.1=gs.map (bsN n)
 cl:b.2.2.2.2.2.1=cls
 mark:b.2.2.2.2.2.2.2=gs.map λg=>ia g last n
 sup:∀ g∈gs,Sup n g
def yb(g:Nat->Bool):Nat->Bool
 |0=>false
 |i+1=>yb g i||g i
theorem Jn{g:Nat->Bool}:∀ {i:Nat},yb g i=true↔∃ q,q<i/\g q=true:=by
 intro i
 induction i with
 |zero=>
  constructor
  ·intro h;cases h
  ·rintro⟨q,h,_⟩;omega
 |succ i ih=>
  simp only[yb,aG,ih]
  constructor
  ·rintro(⟨q,h1,h2⟩|h)
   ·exact⟨q,by omega,h2⟩
   ·exact⟨i,by omega,h⟩
  ·rintro⟨q,h1,h2⟩
   by_cases e:q=i
   ·subst e;exact .inr h2
   ·exact .inl ⟨q,by omega,h2⟩
theorem DT{N:NfI}{n last:Nat}{jr cls:List Int}(hn:n<=100000)(hl:last<n){b:BI}{gs:List (Nat->Bool)}(hb:BOk N n last jr cls b gs)(hg:gs.length<=100000){g:Nat->Bool}(hs:Sup n g):
 ∃ (r:Int) (b':BI) (gs':List (Nat->Bool)),Ij N0 (b,(bsN n g,()))=some ((r,()),(b',()))/\BOk N n last jr cls b' gs'/\b'.2.2.2.2.2.2.1=b.2.2.2.2.2.2.1/\(((gs'=gs)/\((∀ q,g q=false)\/g∈gs))\/(gs'=gs++[g]/\g∉gs)):=by
 unfold Ij
 simp only
 refine eu (λm x=>∃ i:Nat,x=((b,()),(yb g i,((i:Int),())))/\m+i=n) (λz=>∃ (r:Int) (b':BI) (gs':List (Nat->Bool)),z=some ((r,()),(b',()))/\BOk N n last jr cls b' gs'/\b'.2.2.2.2.2.2.1=b.2.2.2.2.2.2.1/\(((gs'=gs)/\((∀ q,g q=false)\/g∈gs))\/(gs'=gs++[g]/\g∉gs))) ?_ N0 n _ (by unfold N0;omega) ⟨0,?_,rfl⟩
 ·rintro m x ⟨i,rfl,hm⟩ k hk
  simp only[hJ]
  rcases ap i n with hi|hi
  ·have n0:(0:Int)<=(i:Int):=by omega
   rw[decide_eq_true (show(i:Int)<((n:Nat):Int) by omega),cond_true,if_pos n0,aa,hP g hi]
   simp only
   refine p5 (P:=λz=>∃ (r:Int) (b':BI) (gs':List (Nat->Bool)),z=some ((r,()),(b',()))/\BOk N n last jr cls b' gs'/\b'.2.2.2.2.2.2.1=b.2.2.2.2.2.2.1/\(((gs'=gs)/\((∀ q,g q=false)\/g∈gs))\/(gs'=gs++[g]/\g∉gs))) λK hK=>?_
   have hor:yb g (i+1)=(yb g i||g i):=rfl
   have fin:=hk (m-1) ((b,()),(yb g (i+1),(((i+1:Nat):Int),()))) (by omega) ⟨i+1,rfl,by omega⟩
   cases hd:yb g i
   ·rw[cond_false,hK]
    simp only
    rw[cY (by omega)]
    rw[hor,hd,cP]at fin
    exact fin
   ·rw[cond_true,hK]
    simp only
    rw[cY (by omega)]
    rw[hor,hd,dV]at fin
    exact fin
  ·have:i=n:=by omega
   subst this
   rw[decide_eq_false (show ¬(i:Int)<((i:Nat):Int) by omega),cond_false]
   cases hd:yb g i
   ·rw[aJ,cond_true]
    refine⟨-1,b,gs,rfl,hb,rfl,.inl ⟨rfl,.inl λq=>?_⟩⟩
    cases hq:g q
    ·rfl
    ·rw[Jn.2 ⟨q,hs q hq,hq⟩]at hd;cases hd
   ·rw[aB,cond_false,ae (MQ hn g)]
    simp only[hs.cut]
    show ∃ (r:Int) (b':BI) (gs':List (Nat->Bool)),(bif fi eqK (da i g) b.2.2.2.1 then _ else _)=some ((r,()),(b',()))/\_
    cases hh:fi eqK (da i g) b.2.2.2.1
    ·rw[cond_false]
     have hlen:b.2.2.2.2.1.length=gs.length:=by rw[hb.dD,bR]
     have DD:b.2.2.2.2.2.2.2.length=gs.length:=by rw[hb.mark,bR]
     rw[if_pos (by rw[hlen];simp;omega),if_pos (by rw[hlen];simp;omega)]
     rw[show(λ(a b:List Int)=>decide (a=b))=eqK from rfl]
     rw[ae (MU hn hl (b.1,(b.2.1,(b.2.2.1,(fe eqK (da i g) (b.2.2.2.2.1.length:Int) b.2.2.2.1,(b.2.2.2.2.1++[bsN i g],b.2.2.2.2.2))))) hb.mks g)]
     simp only
     rw[if_pos (by rw[DD];simp;omega),if_pos (by rw[DD];simp;omega)]
     refine⟨_,_,gs++[g],rfl,⟨hb.nf,hb.mks,hb.rp,λk'=>?_,?_,hb.cl,?_,?_⟩,rfl,.inr ⟨rfl,λhm=>?_⟩⟩
     ·show fi eqK k' (fe eqK (da i g) _ _)=true↔_
      rw[Jm,aG,decide_eq_true_eq,hb.key]
      constructor
      ·rintro(h|⟨g',h1,h2⟩)
       ·exact⟨g,by simp,h⟩
       ·exact⟨g',by simp[h1],h2⟩
      ·rintro⟨g',h1,h2⟩
       rcases ar.1 h1 with h1|h1
       ·exact .inr ⟨g',h1,h2⟩
       ·simp at h1;subst h1;exact .inl h2
     ·show b.2.2.2.2.1++[bsN i g]=_
      rw[hb.dD];simp
     ·show b.2.2.2.2.2.2.2++[ia g last i]=_
      rw[hb.mark];simp
     ·intro g' hg'
      rcases ar.1 hg' with h1|h1
      ·exact hb.sup g' h1
      ·simp at h1;subst h1;exact hs
     ·have:=(hb.key (da i g)).2 ⟨g,hm,rfl⟩
      rw[hh]at this;cases this
    ·rw[cond_true]
     refine⟨_,b,gs,rfl,hb,rfl,.inl ⟨rfl,.inr ?_⟩⟩
     obtain⟨g',h1,h2⟩:=(hb.key _).1 hh
     have:=hs.ext (hb.sup g' h1) (nD h2)
     rw[this];exact h1
 ·rfl
end
noncomputable section
theorem M5{n x:Nat}(h:x<n):(List.replicate n false).set x true=bsN n (λq=>decide (q=x)):=by
 have h0:List.replicate n false=bsN n (λ_=>false):=by
  apply eA
  intro i
  by_cases hi:i<n
  ·rw[hP (n:=n) (λ_=>false) hi,kJ,if_pos hi]
  ·rw[bx (by rw[il];omega),bx (by rw[hJ];omega)]
 rw[h0,x7 _ h]
 congr 1
theorem M6{n x:Nat}(h:x<n):(List.replicate n false)[x]?=some false:=by
 rw[kJ,if_pos h]
theorem AE{E:List Ed}{n:Nat}(hin:InE n E){f g:Nat->Bool}(hf:∀ q,f q=true->q<n)(h:gQ E f g):Sup n g:=by
 intro q hq
 have:=h.2.2 (λq=>decide (q<n)) (λe he _ _=>by simpa using(hin e he).2) (λx hx=>by simpa using hf x hx) q hq
 simpa using this
theorem Gl{E:List Ed}{n:Nat}(hin:InE n E)(f:Nat->Bool)(c:Nat):∀ q,a8 E f c q=true->q<n:=by
 intro q hq
 obtain⟨e,he,_,_,_,rfl⟩:=fw.1 hq
 exact(hin e he).2
structure AF(t:Rx)(g0:Nat->Bool)(gs:List (Nat->Bool)):Prop where
 nd:gs.Nodup
 rch:∀ g∈gs,Rch t g
 hd:gs[0]?=some g0
theorem AF.le{t:Rx}{g0:Nat->Bool}{gs:List (Nat->Bool)}(h:AF t g0 gs)(hw:t.wt<=12):gs.length<=2000:=Gj hw gs h.nd h.rch
theorem AF.push{t:Rx}{g0 g:Nat->Bool}{gs:List (Nat->Bool)}(h:AF t g0 gs)(hr:Rch t g)(hn:g∉gs):AF t g0 (gs++[g]) where
 nd:=by
  rw[List.nodup_append]
  refine⟨h.nd,by simp,λa ha b hb=>?_⟩
  simp at hb
  subst hb
  rintro rfl
  exact hn ha
 rch:=λg' hg'=>by
  rcases ar.1 hg' with h1|h1
  ·exact h.rch g' h1
  ·simp at h1;subst h1;exact hr
 hd:=by
  have:=h.hd
  rw[dQ (bw.1 this).1]
  exact this
def NO(l:List Int):Prop:=l.length<=256/\∀ v∈l,∃ c:Nat,c<256/\v=(c:Int)
abbrev DfI:=List Int×(List (List Int)×List Int)
def DQ(t:Rx)(z:Option ((DfI×(Int×Unit))×Unit)):Prop:=∃ d:DfI,z=some ((d,((0:Int),())),())/\d.2.2[0]?=some (if t.null=true then 0 else -1)
theorem M7{t:Rx}(hok:t.ok)(hlen:t.len<=400)(hw:t.wt<=12):
 DQ t (Ik N0 (nfT t,(mkL (2*t.len) (t.lst 0),()))):=by
 have hin:=wI t
 have hE:=iL t 0
 have hS:=Pz t hok 0
 have Vb:=t.kE 0
 have Vc:=t.pc 0
 have hn:2*t.len<=100000:=by omega
 unfold Ik
 simp only
 rw[ae (Aw hlen)]
 simp only
 rw[aB,cond_false,show nfT t=(((2*t.len:Nat):Int),((t.ay 0).map edI,(((t.fst 0:Nat):Int),((t.lst 0:Nat):Int))))from rfl]
 rw[ae (MK (by omega) _)]
 simp only
 obtain⟨arr,UK,hao⟩:=MS (dD:=hY (t.ay 0)) (by have:=wJ (t.ay 0);omega) (λS hS'=>by
  unfold hY at hS'
  obtain⟨e,he,rfl⟩:=gL.1 hS'
  exact hS e (nY.1 he).1)
 rw[ae UK]
 simp only
 generalize hNf:(((2*t.len:Nat):Int),((t.ay 0).map edI,(((t.fst 0:Nat):Int),((t.lst 0:Nat):Int))))=N
 have hN1:N.1=((2*t.len:Nat):Int):=by rw[<-hNf]
 have hN2:N.2.2.1=((t.fst 0:Nat):Int):=by rw[<-hNf]
 generalize hZ:(List.replicate 256 (0:Int),(([]:List (List Int)),([]:List Int)))=Z
 generalize hnn:2*t.len=n at *
 generalize hll:t.lst 0=last at *
 -- the bytes Vd U0 for Sa
 refine eu (λm x=>∃ (c:Nat) (jr:List Int),x=((Z,((N,(mkL n last,(jr,(([]:KM),(([]:List (List Bool)),(arr,(([]:List (List Int)),([]:List Int)))))))),())),((c:Int),()))/\m+c=256/\jr.length<=c/\NO jr) (DQ t) ?_ N0 256 _ (by unfold N0;omega) ⟨0,[],rfl,rfl,by simp,by simp[NO]⟩
 rintro m x ⟨c,jr,rfl,hm,hrl,hro⟩ k hk
 simp only
 rcases ap c 256 with hc|hc
 ·have n0:(0:Int)<=(c:Int):=by omega
  obtain⟨v,hv⟩:∃ v,arr[c]?=some v:=⟨arr[c]'(by rw[hao.1];exact hc),ah _⟩
  rw[decide_eq_true (show(c:Int)<256 by omega),cond_true,if_pos n0,aa,hv]
  simp only
  refine p5 (P:=DQ t) λK hK=>?_
  cases hd:decide (IntKind.wrap .i64 v=((jr.length:Nat):Int))
  ·rw[cond_false,hK]
   simp only
   rw[cY (by omega)]
   exact hk (m-1) _ (by omega) ⟨c+1,jr,rfl,by omega,by omega,hro⟩
  ·rw[cond_true,if_pos (by simp;omega),if_pos (by simp;omega),hK]
   simp only
   rw[cY (by omega),jZ hc]
   refine hk (m-1) _ (by omega) ⟨c+1,jr++[(c:Int)],rfl,by omega,by simp;omega,by simp;omega,λv' hv'=>?_⟩
   rcases ar.1 hv' with h1|h1
   ·exact hro.2 v' h1
   ·simp at h1;exact⟨c,hc,h1⟩
 ·rw[decide_eq_false (show ¬(c:Int)<256 by omega),cond_false]
  rw[if_pos ⟨by omega,by omega⟩,if_pos (by rw[aa];omega),if_pos (by omega),aa,aa,M6 (show t.fst 0<n by omega)]
  simp only
  rw[if_pos (by omega)]
  have hbs:=M5 (n:=n) (x:=t.fst 0) (by omega)
  rw[hbs]
  obtain⟨g0,hg0,hc0⟩:=DH (n:=n) hn (E:=t.ay 0) (by omega) hin (((t.fst 0:Nat):Int),((last:Nat):Int)) (λq=>decide (q=t.fst 0))
  rw[hNf]at hg0
  rw[ae hg0]
  simp only
  have hs0:Sup n g0:=AE hin (λq hq=>by rw[decide_eq_true_eq]at hq;omega) hc0
  have hb0:BOk N n last jr arr (N,(mkL n last,(jr,(([]:KM),(([]:List (List Bool)),(arr,(([]:List (List Int)),([]:List Int)))))))) []:=
   ⟨rfl,rfl,rfl,λk=>⟨λh=>(by cases h),λ⟨g,h,_⟩=>(by simp at h)⟩,rfl,rfl,rfl,λg h=>(by simp at h)⟩
  obtain⟨r,b1,gs1,e1,ob1,nx1,UL⟩:=DT hn (by omega) hb0 (by simp) hs0
  rw[ae e1]
  simp only
  have UM:AF t g0 gs1:=by
   rcases UL with⟨_,h|h⟩|⟨rfl,_⟩
   ·have:=hc0.1 (t.fst 0) (by simp)
    rw[h]at this;cases this
   ·simp at h
   ·exact⟨by simp,λg hg=>by simp at hg;subst hg;exact .ini hc0,rfl⟩
  refine eu (λm x=>∃ (i:Nat) (b:BI) (gs:List (Nat->Bool)),x=((Z,(b,())),((i:Int),()))/\BOk N n last jr arr b gs/\AF t g0 gs/\m+i=2000/\i<=gs.length/\b.2.2.2.2.2.2.1.length=i) (DQ t) ?_ N0 2000 _ (by unfold N0;omega) ⟨0,b1,gs1,rfl,ob1,UM,rfl,aH _,by rw[nx1];rfl⟩
  rintro m x ⟨i,b,gs,rfl,ob,og,hm,hi,hnx⟩ k hk
  have hle:=og.le hw
  have hsl:b.2.2.2.2.1.length=gs.length:=by rw[ob.dD,bR]
  simp only[hsl]
  rcases ap i gs.length with hil|hil
  ·rw[decide_eq_true (show(i:Int)<((gs.length:Nat):Int) by omega),cond_true,decide_eq_false (show ¬(2000:Int)<((gs.length:Nat):Int) by omega),cond_false]
   refine eu (λm x=>∃ (j:Nat) (b':BI) (gs':List (Nat->Bool)) (row:List Int),x=((Z,(b',())),(row,((j:Int),())))/\BOk N n last jr arr b' gs'/\AF t g0 gs'/\m+j=jr.length/\i<gs'.length/\b'.2.2.2.2.2.2.1.length=i/\row.length=j) (DQ t) ?_ N0 jr.length _ (by have:=hro.1;unfold N0;omega) ⟨0,b,gs,[],rfl,ob,og,rfl,hil,hnx,rfl⟩
   rintro m' x ⟨j,b',gs',row,rfl,ob',og',hm',PF,UN,gR⟩ k' hk'
   simp only[ob.rp]
   have Ve:=og'.le hw
   rcases ap j jr.length with hj|hj
   ·obtain⟨cc,hcc,hcv⟩:=hro.2 _ (bp hj)
    have hgj:jr[j]?=some (cc:Int):=by rw[ah hj,hcv]
    have hgi:gs'[i]?=some gs'[i]:=ah PF
    have hmi:gs'[i]∈gs':=bp PF
    have dA:b'.2.2.2.2.1[i]?=some (bsN n gs'[i]):=by rw[ob'.dD,bX,hgi];rfl
    generalize gs'[i]=gi at hmi dA
    have CN:=hro.1
    rw[decide_eq_true (show(j:Int)<((jr.length:Nat):Int) by omega),cond_true,if_pos (by omega),aa,hgj]
    simp only
    rw[if_pos (by omega),aa,dA]
    simp only
    have h168:=MN (n:=n) hn (E:=t.ay 0) (by omega) hin hS (((t.fst 0:Nat):Int),((last:Nat):Int)) gi hcc
    rw[hNf]at h168
    rw[ae h168]
    simp only
    obtain⟨g2,hg2,hc2⟩:=DH (n:=n) hn (E:=t.ay 0) (by omega) hin (((t.fst 0:Nat):Int),((last:Nat):Int)) (a8 (t.ay 0) gi cc)
    rw[hNf]at hg2
    rw[ae hg2]
    simp only
    have hs2:Sup n g2:=AE hin (Gl hin gi cc) hc2
    obtain⟨r2,b2,gs2,e2,ob2,nx2,RL⟩:=DT hn (by omega) ob' (by omega) hs2
    rw[ae e2]
    simp only
    rw[if_pos (by simp;omega),if_pos (by simp;omega),cY (by omega)]
    refine hk' (m' - 1) _ (by omega) ⟨j+1,b2,gs2,row++[r2],rfl,ob2,?_,by omega,?_,by rw[nx2];exact UN,by simp;omega⟩
    ·rcases RL with⟨rfl,_⟩|⟨rfl,hnm⟩
     ·exact og'
     ·exact og'.push (.step hcc (og'.rch gi hmi) hc2) hnm
    ·rcases RL with⟨rfl,_⟩|⟨rfl,_⟩
     ·exact PF
     ·simp;omega
   ·rw[decide_eq_false (show ¬(j:Int)<((jr.length:Nat):Int) by omega),cond_false]
    rw[if_pos (by simp;omega),if_pos (by simp;omega),cY (by omega)]
    exact hk (m-1) _ (by omega) ⟨i+1,_,gs',rfl,⟨ob'.nf,ob'.mks,ob'.rp,ob'.key,ob'.dD,ob'.cl,ob'.mark,ob'.sup⟩,og',by omega,by omega,by simp;omega⟩
  ·rw[decide_eq_false (show ¬(i:Int)<((gs.length:Nat):Int) by omega),cond_false]
   refine⟨_,rfl,?_⟩
   show b.2.2.2.2.2.2.2[0]?=_
   rw[ob.mark,bX,og.hd]
   have hmn:=Gg t hc0
   rw[hll]at hmn
   have hln:last<n:=by omega
   simp only[dz,ia,hmn]
   simp[hln]
end
noncomputable section
def cls(c:Nat):Int:=if c=32\/c=9\/c=10\/c=13 then 1 else if 48<=c/\c<=57 then 2 else if(97<=c/\c<=122)\/(65<=c/\c<=90)\/c=95 then 3 else if 32<c/\c<127 then 4 else 0
theorem Jo:∀ c:Fin 256,F7 N0 (((c.val:Nat):Int),())=some ((cls c.val,()),()):=by decide +kernel
theorem M8:∀ c:Fin 256,p99 N0 (((c.val:Nat):Int),())=some ((cls c.val,()),()):=by decide +kernel
theorem DU{c:Int}(h:0<=c/\c<=255):F7 N0 (c,())=some ((cls c.toNat,()),()):=by
 have:=Jo ⟨c.toNat,by omega⟩
 simp only[dh h.1]at this
 exact this
theorem PG{c:Int}(h:0<=c/\c<=255):p99 N0 (c,())=some ((cls c.toNat,()),()):=by
 have:=M8 ⟨c.toNat,by omega⟩
 simp only[dh h.1]at this
 exact this
def Gm(k:Nat)(c:Int):Prop:=cls c.toNat=3\/(cls c.toNat=2/\k≠0)
def Jp(s:List Int):Prop:=1<=s.length/\s.length<=40/\∀ k c,s[k]?=some c->Gm k c
def ic(s:List Int):Bool:=@decide (Jp s) (Classical.propDecidable _)
theorem DV{s:List Int}(h:Jp s):ic s=true:=@decide_eq_true _ (Classical.propDecidable _) h
theorem mu{s:List Int}(h:¬Jp s):ic s=false:=@decide_eq_false _ (Classical.propDecidable _) h
theorem Ci{s:List Int}(hb:Bytes s)(hs:s.length<=maxLen):p67 N0 (s,())=some ((ic s,()),()):=by
 unfold p67
 simp only
 refine aZ (λm x r=>∃ j:Nat,x=((),((j:Int),()))/\m+j=s.length/\(∀ k c,k<j->s[k]?=some c->Gm k c)/\r=some ((ic s,()),())) ?_ N0 s.length _ _ (by have:=jY hs;omega) ⟨0,rfl,rfl,λk c h=>by omega,rfl⟩
 rintro m x r ⟨j,rfl,hm,fT,rfl⟩ k hk
 simp only
 rcases ap j s.length with hj|hj
 ·have n0:(0:Int)<=(j:Int):=by omega
  have hg:s[j]?=some s[j]:=ah hj
  generalize s[j]=c at hg
  rw[decide_eq_true (show(j:Int)<((s.length:Nat):Int) by omega),cond_true,if_pos n0,aa,hg]
  simp only
  rw[ae (PG (hb.get hg))]
  simp only
  by_cases hok:Gm j c
  ·refine aV ((),(false,())) (λK=>?_) ?_
   ·rcases hok with h|⟨h,h0⟩
    ·rw[h];rfl
    ·rw[h,show(!decide ((2:Int)=3))=true from rfl,cond_true,show(!decide ((2:Int)=2))=false from rfl,cond_false,decide_eq_false (show ¬(j:Int)=0 by omega)]
   ·simp only
    rw[cond_false,bo hj hs]
    refine hk (m-1) _ _ (by omega) ⟨j+1,rfl,by omega,λk c' hk' hc'=>?_,rfl⟩
    by_cases e:k=j
    ·subst e
     rw[hg]at hc'
     injection hc' with hc'
     subst hc'
     exact hok
    ·exact fT k c' (by omega) hc'
  ·refine aV ((),(true,())) (λK=>?_) ?_
   ·unfold Gm at hok
    have h3:¬cls c.toNat=3:=λh=>hok (.inl h)
    rw[decide_eq_false h3,aJ,cond_true]
    by_cases h2:cls c.toNat=2
    ·have h0:j=0:=by
      rcases dx j with h|h
      ·exact h
      ·exact absurd (.inr ⟨h2,by omega⟩) hok
     rw[decide_eq_true h2,aB,cond_false,decide_eq_true (show(j:Int)=0 by omega)]
    ·rw[decide_eq_false h2,aJ,cond_true]
   ·simp only
    rw[cond_true,mu λh=>hok (h.2.2 j c hg)]
 ·rw[decide_eq_false (show ¬(j:Int)<((s.length:Nat):Int) by omega),cond_false]
  refine aV ((),(ic s,())) (λK=>?_) rfl
  have RM:∀ k c,s[k]?=some c->Gm k c:=λk c hc=>fT k c (bz (bw.1 hc).1 hj) hc
  by_cases h1:1<=s.length
  ·rw[decide_eq_true (show(1:Int)<=((s.length:Nat):Int) by omega),cond_true]
   by_cases h2:s.length<=40
   ·rw[decide_eq_true (show((s.length:Nat):Int)<=40 by omega),DV ⟨h1,h2,RM⟩]
   ·rw[decide_eq_false (show ¬((s.length:Nat):Int)<=40 by omega),mu λh=>h2 h.2.1]
  ·rw[decide_eq_false (show ¬(1:Int)<=((s.length:Nat):Int) by omega),cond_false,mu λh=>h1 h.1]
end
noncomputable section
theorem Cj{s:List Int}(hb:Bytes s)(hs:s.length<=maxLen):p89 N0 (s,())=some ((ic s,()),()):=by
 unfold p89
 simp only
 by_cases h40:40<s.length
 ·refine aV ((),(true,())) (λK=>?_) ?_
  ·rw[decide_eq_true (show(40:Int)<((s.length:Nat):Int) by omega),cond_true]
  ·simp only
   rw[cond_true,mu λh=>by have:=h.2.1;omega]
 cases s with
 |nil=>
  refine aV ((),(true,())) (λK=>?_) ?_
  ·rfl
  ·simp only
   rw[cond_true,mu λh=>by have:=h.1;simp at this]
 |cons c r=>
  have hc:=hb c (by simp)
  have n0:(0:Int)<=0:=by omega
  have xh:∀ K:Unit×(Bool×Unit)->Option ((Bool×Unit)×Unit),(bif decide ((40:Int)<(((c::r:List Int).length:Nat):Int))then K ((),(true,()))else(bif decide ((c::r:List Int)=[])then K ((),(true,()))else(if(0:Int)<=0 then(match(c::r:List Int)[((0:Int)).toNat]? with|some v11=>(aj (F7 N0 (v11,())) λv12=>K ((),((!decide (v12.1.1=3)),())))|none=>none)else none)))=K ((),((!decide (cls c.toNat=3)),())):=by
   intro K
   rw[decide_eq_false (show ¬(40:Int)<(((c::r:List Int).length:Nat):Int) by omega),cond_false,show decide ((c::r:List Int)=[])=false from rfl,cond_false,if_pos n0,Ar]
   simp only
   rw[ae (DU hc)]
  refine aV ((),((!decide (cls c.toNat=3)),())) (λK=>xh K) ?_
  simp only
  by_cases h3:cls c.toNat=3
  ·rw[decide_eq_true h3,aB,cond_false]
   refine aZ (λm x q=>∃ j:Nat,x=((),((j:Int),()))/\m+j=(c::r).length/\(∀ k d,k<j->(c::r)[k]?=some d->Gm k d)/\q=some ((ic (c::r),()),())) ?_ N0 (c::r).length _ _ (by have:=jY hs;omega) ⟨0,rfl,rfl,λk d h=>by omega,rfl⟩
   rintro m x q ⟨j,rfl,hm,fT,rfl⟩ k hk
   simp only
   rcases ap j (c::r).length with hj|hj
   ·have n1:(0:Int)<=(j:Int):=by omega
    have hg:(c::r)[j]?=some (c::r)[j]:=ah hj
    generalize (c::r)[j]=d at hg
    rw[decide_eq_true (show(j:Int)<(((c::r:List Int).length:Nat):Int) by omega),cond_true,if_pos n1,aa,hg]
    simp only
    rw[ae (DU (hb.get hg))]
    simp only
    by_cases hok:cls d.toNat=2\/cls d.toNat=3
    ·refine aV ((),(false,())) (λK=>?_) ?_
     ·rcases hok with h|h <;> rw[h] <;> rfl
     ·simp only
      rw[cond_false,bo hj hs]
      refine hk (m-1) _ _ (by omega) ⟨j+1,rfl,by omega,λk d' hk' hd'=>?_,rfl⟩
      by_cases e:k=j
      ·subst e
       rw[hg]at hd'
       injection hd' with hd'
       subst hd'
       rcases hok with h|h
       ·right
        refine⟨h,λhk0=>?_⟩
        subst hk0
        have:c=d:=by simpa using hg
        rw[<-this,h3]at h
        cases h
       ·exact .inl h
      ·exact fT k d' (by omega) hd'
    ·have h2:¬cls d.toNat=2:=λh=>hok (.inl h)
     have h3':¬cls d.toNat=3:=λh=>hok (.inr h)
     refine aV ((),(true,())) (λK=>?_) ?_
     ·rw[decide_eq_false h2,aJ,cond_true,decide_eq_false h3',aJ]
     ·simp only
      rw[cond_true,mu λh=>by
       rcases h.2.2 j d hg with h|h
       ·exact h3' h
       ·exact h2 h.1]
   ·rw[decide_eq_false (show ¬(j:Int)<(((c::r:List Int).length:Nat):Int) by omega),cond_false]
    rw[DV ⟨by simp,by omega,λk d hd=>fT k d (bz (bw.1 hd).1 hj) hd⟩]
  ·rw[decide_eq_false h3,aJ,cond_true,mu λh=>by
    rcases h.2.2 0 c rfl with h|h
    ·exact h3 h
    ·exact h.2 rfl]
end
noncomputable section
abbrev RuI:=List Int×(Int×List Int)
def Jq(r:RuI):Prop:=Bytes r.1/\r.1.length<=maxLen/\Bytes r.2.2/\r.2.2.length<=maxLen
def DW(s:List Int):Int:=match gd s with
 |.error e=>e
 |.ok t=>if t.null=true then 14 else 0
def Gn(rs:List RuI)(i:Nat)(nm:List Int):Prop:=∃ j r,j<i/\rs[j]?=some r/\r.1=nm
noncomputable instance (rs:List RuI) (i:Nat) (nm:List Int):Decidable (Gn rs i nm):=Classical.propDecidable _
def sD(rs:List RuI)(i:Nat)(r:RuI):Int:=
 if ic r.1=false then 8 else if Gn rs i r.1 then 9 else if r.2.1<0\/2<r.2.1 then 1 else DW r.2.2
theorem PH{rs:List RuI}(hs:rs.length<=maxLen){i:Nat}{r:RuI}(hr:rs[i]?=some r)(hok:Jq r):p66 N0 (rs,((i:Int),()))=some ((sD rs i r,()),()):=by
 obtain⟨h1,h2,h3,h4⟩:=hok
 have hi:i<rs.length:=(bw.1 hr).1
 have n0:(0:Int)<=(i:Int):=by omega
 unfold p66
 simp only
 rw[if_pos n0,aa,hr]
 simp only
 rw[ae (Ci h1 h2)]
 simp only
 unfold sD
 cases hn:ic r.1
 ·rw[aJ,cond_true,if_pos rfl]
 rw[aB,cond_false,if_neg (by simp)]
 refine aZ (λm x q=>∃ j:Nat,x=((),((j:Int),()))/\m+j=i/\(∀ k r',k<j->rs[k]?=some r'->¬r'.1=r.1)/\q=some ((if Gn rs i r.1 then 9 else if r.2.1<0\/2<r.2.1 then 1 else DW r.2.2,()),())) ?_ N0 i _ _ (by unfold N0;unfold maxLen at hs;omega) ⟨0,rfl,rfl,λk r' h=>by omega,rfl⟩
 rintro m x q ⟨j,rfl,hm,fT,rfl⟩ k hk
 simp only
 rcases ap j i with hj|hj
 ·have n1:(0:Int)<=(j:Int):=by omega
  have hg:rs[j]?=some (rs[j]'(by omega)):=ah _
  generalize rs[j]'(by omega)=r' at hg
  rw[decide_eq_true (show(j:Int)<(i:Int) by omega),cond_true,if_pos n1,aa,hg]
  simp only
  by_cases e:r'.1=r.1
  ·rw[decide_eq_true e,cond_true,if_pos ⟨j,r',hj,hg,e⟩]
  ·rw[decide_eq_false e,cond_false,bo (show j<rs.length by omega) hs]
   refine hk (m-1) _ _ (by omega) ⟨j+1,rfl,by omega,λk' r2 hk' hr2=>?_,rfl⟩
   by_cases e2:k'=j
   ·subst e2
    rw[hg]at hr2
    injection hr2 with hr2
    subst hr2
    exact e
   ·exact fT k' r2 (by omega) hr2
 ·rw[decide_eq_false (show ¬(j:Int)<(i:Int) by omega),cond_false]
  have hnd:¬Gn rs i r.1:=by
   rintro⟨k',r2,hk',hr2,e⟩
   exact fT k' r2 (by omega) hr2 e
  rw[if_neg hnd]
  refine aV ((),(decide (r.2.1<0\/2<r.2.1),())) (λK=>?_) ?_
  ·by_cases q1:r.2.1<0
   ·rw[decide_eq_true q1,cond_true,decide_eq_true (.inl q1)]
   ·rw[decide_eq_false q1,cond_false]
    have:decide (r.2.1<0\/2<r.2.1)=decide (2<r.2.1):=by rw[decide_eq_decide];exact⟨λh=>h.resolve_left q1,.inr⟩
    rw[this]
  ·simp only
   by_cases hk2:r.2.1<0\/2<r.2.1
   ·rw[if_pos hk2,decide_eq_true hk2,cond_true]
   ·rw[if_neg hk2,decide_eq_false hk2,cond_false,ae (Px h3)]
    unfold DW
    cases hp:gd r.2.2 with
    |error e=>
     rcases pe hp with rfl|rfl <;> rfl
    |ok t=>
     obtain⟨q1,q2,q3⟩:=rM h3 hp
     simp only[IU]
     rw[decide_true,aB,cond_false,ae (Py q1 (by omega))]
     simp only
     cases t.null <;> rfl
end
noncomputable section
def chk(rs:List RuI):Nat->List RuI->Nat×Int
 |i,[]=>(i,0)
 |i,r::rest=>if sD rs i r=0 then chk rs (i+1) rest else(i,sD rs i r)
def lJ(rs:List RuI):Nat×Int:=if 60<rs.length then(rs.length,6)else chk rs 0 rs
theorem PI{rs:List RuI}(hs:rs.length<=maxLen)(hok:∀ r∈rs,Jq r):p35 N0 (rs,())=some ((((lJ rs).1:Int),((lJ rs).2,())),()):=by
 unfold p35 lJ
 simp only
 by_cases h60:60<rs.length
 ·rw[if_pos h60,decide_eq_true (show(60:Int)<((rs.length:Nat):Int) by omega),cond_true]
 rw[if_neg h60,decide_eq_false (show ¬(60:Int)<((rs.length:Nat):Int) by omega),cond_false]
 refine aZ (λm x q=>∃ j:Nat,x=((),((j:Int),()))/\m+j=rs.length/\chk rs j (rs.drop j)=chk rs 0 rs/\q=some ((((chk rs 0 rs).1:Int),((chk rs 0 rs).2,())),())) ?_ N0 rs.length _ _ (by have:=jY hs;omega) ⟨0,rfl,rfl,by rw[dn],rfl⟩
 rintro m x q ⟨j,rfl,hm,hch,rfl⟩ k hk
 simp only
 rcases ap j rs.length with hj|hj
 ·have hg:rs[j]?=some rs[j]:=ah hj
  have lv:=hok _ (bp hj)
  rw[db hj]at hch
  generalize rs[j]=r at hg lv hch
  rw[decide_eq_true (show(j:Int)<((rs.length:Nat):Int) by omega),cond_true,ae (PH hs hg lv)]
  simp only
  simp only[chk]at hch
  by_cases he:sD rs j r=0
  ·rw[if_pos he]at hch
   rw[decide_eq_true he,aB,cond_false,bo hj hs]
   exact hk (m-1) _ _ (by omega) ⟨j+1,rfl,by omega,hch,rfl⟩
  ·rw[if_neg he]at hch
   rw[decide_eq_false he,aJ,cond_true,<-hch]
 ·have:j=rs.length:=by omega
  subst this
  rw[decide_eq_false (show ¬((rs.length:Nat):Int)<((rs.length:Nat):Int) by omega),cond_false]
  rw[ft]at hch
  rw[<-hch]
  rfl
end
noncomputable section
theorem Ck{s:List Int}(hb:Bytes s)(h12:s.length<=12){t:Rx}(h:gd s=.ok t):∃ d,BZ N0 (s,())=some ((d,((0:Int),())),())/\d.2.2[0]?=some (if t.null=true then 0 else -1):=by
 obtain⟨h1,h2,h3⟩:=rM hb h
 have hw:=Gi hb h
 obtain⟨d,hd,hm⟩:=M7 h1 h2 (by omega)
 exact⟨d,M2 hb (by unfold maxLen;omega) h (M4 h2 hd),hm⟩
theorem Jr(k k':List Int)(v:Int):∀ x:KM,cS eqK k (fe eqK k' v x)=if k=k' then v else cS eqK k x:=by
 intro x
 induction x with
 |nil=>
  simp only[fe,cS,eqK]
  by_cases e:k=k' <;> simp[e]
 |cons p r ih=>
  simp only[fe]
  by_cases e:k'=p.1
  ·have:eqK k' p.1=true:=decide_eq_true e
   rw[this,cond_true]
   simp only[cS]
   rw[<-e]
   by_cases e2:k=k'
   ·rw[show eqK k k'=true from decide_eq_true e2,if_pos e2];rfl
   ·rw[show eqK k k'=false from decide_eq_false e2,if_neg e2];rfl
  ·have:eqK k' p.1=false:=decide_eq_false e
   rw[this,cond_false]
   simp only[cS]
   by_cases e2:k=p.1
   ·rw[show eqK k p.1=true from decide_eq_true e2,cond_true,cond_true]
    rw[if_neg]
    rintro rfl
    exact e e2
   ·rw[show eqK k p.1=false from decide_eq_false e2,cond_false,cond_false,ih]
def uI(rs:List RuI)(i:Nat)(m:KM):Prop:=∀ k,(0<cS eqK k m↔Gn rs i k)/\0<=cS eqK k m/\cS eqK k m<=(i:Int)
theorem uI.next{rs:List RuI}{i:Nat}{m:KM}(h:uI rs i m){r:RuI}(hr:rs[i]?=some r):uI rs (i+1) (fe eqK r.1 (cS eqK r.1 m+1) m):=by
 intro k
 rw[Jr]
 obtain⟨h1,h2,h3⟩:=h k
 by_cases e:k=r.1
 ·subst e
  rw[if_pos rfl]
  refine⟨⟨λ_=>⟨i,r,by omega,hr,rfl⟩,λ_=>by omega⟩,by omega,by omega⟩
 ·rw[if_neg e,h1]
  refine⟨⟨λ⟨j,r',a1,a2,a3⟩=>⟨j,r',by omega,a2,a3⟩,λ⟨j,r',a1,a2,a3⟩=>?_⟩,by omega,by omega⟩
  by_cases e2:j=i
  ·subst e2
   rw[hr]at a2
   injection a2 with a2
   subst a2
   exact absurd a3.symm e
  ·exact⟨j,r',by omega,a2,a3⟩
theorem PJ{rs:List RuI}{i:Nat}{r:RuI}(hr:rs[i]?=some r)(hok:Jq r)(h12:r.2.2.length<=12){m:KM}(hm:uI rs i m):p88 N0 (r,(m,()))=some ((sD rs i r,()),()):=by
 obtain⟨h1,h2,h3,h4⟩:=hok
 unfold p88
 simp only
 rw[ae (Cj h1 h2)]
 simp only
 unfold sD
 cases hn:ic r.1
 ·rw[aJ,cond_true,if_pos rfl]
 rw[aB,cond_false,if_neg (by simp)]
 show(bif decide ((0:Int)<cS eqK r.1 m)then _ else _)=_
 by_cases hd:Gn rs i r.1
 ·rw[decide_eq_true ((hm r.1).1.2 hd),cond_true,if_pos hd]
 rw[decide_eq_false (λh=>hd ((hm r.1).1.1 h)),cond_false,if_neg hd]
 refine aV ((),(decide (r.2.1<0\/2<r.2.1),())) (λK=>?_) ?_
 ·by_cases q1:r.2.1<0
  ·rw[decide_eq_true q1,cond_true,decide_eq_true (.inl q1)]
  ·rw[decide_eq_false q1,cond_false]
   have:decide (r.2.1<0\/2<r.2.1)=decide (2<r.2.1):=by rw[decide_eq_decide];exact⟨λh=>h.resolve_left q1,.inr⟩
   rw[this]
 ·simp only
  by_cases hk2:r.2.1<0\/2<r.2.1
  ·rw[if_pos hk2,decide_eq_true hk2,cond_true]
  ·rw[if_neg hk2,decide_eq_false hk2,cond_false]
   unfold DW
   cases hp:gd r.2.2 with
   |error e=>
    rw[ae (Jj h3 h4 hp)]
    rcases pe hp with rfl|rfl <;> rfl
   |ok t=>
    obtain⟨d,hd2,hd3⟩:=Ck h3 h12 hp
    rw[ae hd2]
    simp only
    rw[decide_true,aB,cond_false,ae (Ji hd3)]
    simp only
    cases t.null <;> rfl
theorem PK{rs:List RuI}(hs:rs.length<=maxLen)(hok:∀ r∈rs,Jq r)(h12:∀ r∈rs,r.2.2.length<=12):p58 N0 (rs,())=some ((((lJ rs).1:Int),((lJ rs).2,())),()):=by
 unfold p58 lJ
 simp only
 by_cases h60:60<rs.length
 ·rw[if_pos h60,decide_eq_true (show(60:Int)<((rs.length:Nat):Int) by omega),cond_true]
 rw[if_neg h60,decide_eq_false (show ¬(60:Int)<((rs.length:Nat):Int) by omega),cond_false]
 refine aZ (λm x q=>∃ (j:Nat) (mp:KM),x=((mp,()),((j:Int),()))/\m+j=rs.length/\uI rs j mp/\chk rs j (rs.drop j)=chk rs 0 rs/\q=some ((((chk rs 0 rs).1:Int),((chk rs 0 rs).2,())),())) ?_ N0 rs.length _ _ (by have:=jY hs;omega) ⟨0,[],rfl,rfl,λk=>⟨⟨λh=>absurd h (by simp[cS]),λ⟨j,_,h,_⟩=>by omega⟩,by simp[cS],by simp[cS]⟩,by rw[dn],rfl⟩
 rintro m x q ⟨j,mp,rfl,hm,hsn,hch,rfl⟩ k hk
 simp only
 rcases ap j rs.length with hj|hj
 ·have hg:rs[j]?=some rs[j]:=ah hj
  have lv:=hok _ (bp hj)
  have NP:=h12 _ (bp hj)
  rw[db hj]at hch
  generalize rs[j]=r at hg lv NP hch
  have n0:(0:Int)<=(j:Int):=by omega
  rw[decide_eq_true (show(j:Int)<((rs.length:Nat):Int) by omega),cond_true,if_pos n0,aa,hg]
  simp only
  rw[ae (PJ hg lv NP hsn)]
  simp only
  simp only[chk]at hch
  by_cases he:sD rs j r=0
  ·rw[if_pos he]at hch
   rw[decide_eq_true he,aB,cond_false,bo hj hs]
   show k (((fe eqK r.1 (IntKind.wrap .i64 (cS eqK r.1 mp+1)) mp),()),_)=_
   have e1:IntKind.wrap .i64 (cS eqK r.1 mp+1)=cS eqK r.1 mp+1:=by
    obtain⟨_,q1,q2⟩:=hsn r.1
    obtain⟨u,hu⟩:∃ u:Nat,cS eqK r.1 mp=(u:Int):=⟨_,(dh q1).symm⟩
    rw[hu]at q2 |-
    rw[cY (by omega)]
    rfl
   rw[e1]
   exact hk (m-1) _ _ (by omega) ⟨j+1,_,rfl,by omega,hsn.next hg,hch,rfl⟩
  ·rw[if_neg he]at hch
   rw[decide_eq_false he,aJ,cond_true,<-hch]
 ·have:j=rs.length:=by omega
  subst this
  rw[decide_eq_false (show ¬((rs.length:Nat):Int)<((rs.length:Nat):Int) by omega),cond_false]
  rw[ft]at hch
  rw[<-hch]
  rfl
end
noncomputable section
abbrev M9:=Bool×Int
abbrev PrI:=Int×(List Int×(List M9×(Bool×(Int×List Int))))
abbrev LvI:=Int×List Int
abbrev GrI:=List RuI×(List (List Int)×(List PrI×(List LvI×Int)))
structure sS(g:GrI):Prop where
 r0:g.1.length<=100000
 r1:∀ r∈g.1,Jq r
 s0:g.2.1.length<=100000
 s1:∀ s∈g.2.1,Bytes s/\s.length<=maxLen
 p0:g.2.2.1.length<=100000
 p1:∀ p∈g.2.2.1,Bytes p.2.1/\p.2.1.length<=maxLen
 p2:∀ p∈g.2.2.1,p.2.2.1.length<=100000
 p3:∀ p∈g.2.2.1,p.2.2.2.2.2.length<=100000
 l0:g.2.2.2.1.length<=100000
 l1:∀ l∈g.2.2.2.1,l.2.length<=100000
theorem le_max{n:Nat}(h:n<=100000):n<=maxLen:=by unfold maxLen;omega
theorem ik{n:Nat}(h:n<=100000):n<N0:=by unfold N0;omega
theorem DX{α A R:Type}{body:A->(A->Option R)->Option R}(l:List α)(f:Nat->A)(bad:α->Bool)(found:Nat->Option R)(after:Option R)
 (step:∀ j,(h:j<l.length)->∀ k,body (f j) k=if bad l[j]=true then found j else k (f (j+1))) (fin:∀ k,body (f l.length) k=after) (n:Nat) (hn:l.length<n):
 aF body n (f 0)=match l.findIdx? bad with|some j=>found j|none=>after:=by
 have:=bT (body:=body) f (λj=>match(l.drop j).findIdx? bad with|some i=>found (j+i)|none=>after) l.length (λj hj k hk=>by
  rcases ap j l.length with hi|hi
  ·rw[step j hi,db hi,List.findIdx?_cons]
   cases hb:bad l[j]
   ·simp only[av,if_false]
    rw[hk hi]
    cases(l.drop (j+1)).findIdx? bad with
    |none=>rfl
    |some i=>simp only[dz];congr 1;omega
   ·simp
  ·have e:j=l.length:=by omega
   rw[e,fin];simp) n 0 (aH _) (by omega)
 rw[this,dn]
 cases l.findIdx? bad with
 |none=>rfl
 |some i=>simp
def cN{α:Type}(E:Nat->α->Int):Nat->List α->Option (Int×Nat)
 |_,[]=>none
 |i,a::r=>if E i a=0 then cN E (i+1) r else some (E i a,i)
theorem rR{α A R:Type}{body:A->(A->Option R)->Option R}(l:List α)(f:Nat->A)(E:Nat->α->Int)(found:Int->Nat->Option R)(after:Option R)
 (step:∀ j,(h:j<l.length)->∀ k,body (f j) k=if E j l[j]=0 then k (f (j+1))else found (E j l[j]) j) (fin:∀ k,body (f l.length) k=after) (n:Nat) (hn:l.length<n):
 aF body n (f 0)=match cN E 0 l with|some p=>found p.1 p.2|none=>after:=by
 have:=bT (body:=body) f (λj=>match cN E j (l.drop j)with|some p=>found p.1 p.2|none=>after) l.length (λj hj k hk=>by
  rcases ap j l.length with hi|hi
  ·rw[step j hi,db hi]
   simp only[cN]
   by_cases hb:E j l[j]=0
   ·rw[if_pos hb,if_pos hb,hk hi]
   ·rw[if_neg hb,if_neg hb]
  ·have e:j=l.length:=by omega
   rw[e,fin];simp[cN]) n 0 (aH _) (by omega)
 rw[this,dn]
theorem wO{α:Type}(l:List α)(i:Nat)(h:i<=l.length):cz l 0 (i:Int)=l.take i:=by
 unfold cz
 simp
def gq(g:GrI)(s:M9):Bool:=
 if s.1=true then decide (0<=s.2)&&decide (s.2<(g.2.1.length:Int))else decide (0<=s.2)&&(match g.1[s.2.toNat]? with|some r=>decide (r.2.1=0)|none=>false)
theorem Cm(g:GrI)(s:M9):p92 N0 (g,(s,()))=some ((gq g s,()),()):=by
 obtain⟨b,n⟩:=s
 unfold p92 gq
 simp only
 cases b
 ·simp only[av,if_false,cond_false]
  refine aV ((),(decide (0<=n)&&(match g.1[n.toNat]? with|some r=>decide (r.2.1=0)|none=>false),())) (λK=>?_) rfl
  by_cases h0:0<=n
  ·rw[decide_eq_true h0,cond_true,bF]
   by_cases h1:n<((g.1.length:Nat):Int)
   ·rw[decide_eq_true h1,cond_true,if_pos h0,ah (show n.toNat<g.1.length by omega)]
   ·rw[decide_eq_false h1,cond_false,bx (show g.1.length<=n.toNat by omega)]
  ·rw[decide_eq_false h0,cond_false,dI]
 ·simp only[if_true,cond_true]
  refine aV ((),(decide (0<=n)&&decide (n<(g.2.1.length:Int)),())) (λK=>?_) rfl
  by_cases h0:0<=n
  ·rw[decide_eq_true h0,cond_true,bF]
  ·rw[decide_eq_false h0,cond_false,dI]
theorem Cn(g:GrI)(s:M9):p68 N0 (g,(s,()))=some ((gq g s,()),()):=by
 obtain⟨b,n⟩:=s
 unfold p68 gq
 simp only
 cases b
 ·simp only[av,if_false,cond_false]
  refine aV ((),(decide (0<=n)&&(match g.1[n.toNat]? with|some r=>decide (r.2.1=0)|none=>false),())) (λK=>?_) rfl
  by_cases h0:0<=n
  ·rw[decide_eq_true h0,cond_true,bF]
   by_cases h1:n<((g.1.length:Nat):Int)
   ·rw[decide_eq_true h1,cond_true,if_pos h0,ah (show n.toNat<g.1.length by omega)]
   ·rw[decide_eq_false h1,cond_false,bx (show g.1.length<=n.toNat by omega)]
  ·rw[decide_eq_false h0,cond_false,dI]
 ·simp only[if_true,cond_true]
  refine aV ((),(decide (0<=n)&&decide (n<(g.2.1.length:Int)),())) (λK=>?_) rfl
  by_cases h0:0<=n
  ·rw[decide_eq_true h0,cond_true,bF]
  ·rw[decide_eq_false h0,cond_false,dI]
def nE(p:PrI):Bool:=match p.2.2.1 with
 |[a,b,c]=>!a.1&&((b.1&&decide (b.2=p.1))&&!c.1)
 |_=>false
theorem NQ{p:PrI}(h:¬p.2.2.1.length=3):nE p=false:=by
 unfold nE
 split
 ·rename_i e;rw[e]at h;simp at h
 ·rfl
theorem PL(p:PrI):p93 N0 (p,())=some ((nE p,()),()):=by
 obtain⟨s,c,body,par,pr,hi⟩:=p
 unfold p93
 simp only
 refine aV ((),(nE (s,(c,(body,(par,(pr,hi))))),())) (λK=>?_) rfl
 by_cases h3:body.length=3
 ·rw[decide_eq_true (show((body.length:Nat):Int)=3 by omega),cond_true]
  match body,h3 with
  |[(a1,a2),(b1,b2),(c1,c2)],_=>
   show(if(0:Int)<=0 then _ else _)=_
   rw[if_pos (by omega)]
   show(bif !a1 then _ else _)=_
   cases a1
   ·rw[aJ,cond_true]
    rw[if_pos (by omega)]
    show(bif(bif(b1 == true)then decide (b2=s)else false)then _ else _)=_
    cases b1
    ·rfl
    ·show(bif decide (b2=s)then _ else _)=_
     by_cases e:b2=s
     ·rw[decide_eq_true e,cond_true,if_pos (by omega)]
      show K ((),(!c1,()))=_
      simp[nE,e]
     ·rw[decide_eq_false e,cond_false]
      simp[nE,e]
   ·rfl
 ·rw[decide_eq_false (show ¬((body.length:Nat):Int)=3 by omega),cond_false,NQ h3]
theorem PM(p:PrI):p69 N0 (p,())=some ((nE p,()),()):=by
 obtain⟨s,c,body,par,pr,hi⟩:=p
 unfold p69
 simp only
 refine aV ((),(nE (s,(c,(body,(par,(pr,hi))))),())) (λK=>?_) rfl
 by_cases h3:body.length=3
 ·rw[decide_eq_true (show((body.length:Nat):Int)=3 by omega),cond_true]
  match body,h3 with
  |[(a1,a2),(b1,b2),(c1,c2)],_=>
   show(if(0:Int)<=0 then _ else _)=_
   rw[if_pos (by omega)]
   show(bif !a1 then _ else _)=_
   cases a1
   ·rw[aJ,cond_true]
    rw[if_pos (by omega)]
    show(bif b1 then _ else _)=_
    cases b1
    ·rfl
    ·rw[cond_true,if_pos (by omega)]
     show(bif decide (b2=s)then _ else _)=_
     by_cases e:b2=s
     ·rw[decide_eq_true e,cond_true,if_pos (by omega)]
      show K ((),(!c1,()))=_
      simp[nE,e]
     ·rw[decide_eq_false e,cond_false]
      simp[nE,e]
   ·rfl
 ·rw[decide_eq_false (show ¬((body.length:Nat):Int)=3 by omega),cond_false,NQ h3]
def j6(g:GrI)(i:Nat)(s:List Int):Int:=
 if ic s=false then 8 else if(g.2.1.take i).any (λx=>decide (x=s))||g.1.any (λr=>decide (r.1=s))then 9 else 0
theorem DY{g:GrI}{i:Nat}{s:List Int}(h:ic s=false):j6 g i s=8:=by unfold j6;rw[if_pos h]
theorem yc{g:GrI}{i:Nat}{s:List Int}(h:ic s=true)(h2:((g.2.1.take i).any (λx=>decide (x=s))||g.1.any (λr=>decide (r.1=s)))=true):j6 g i s=9:=by unfold j6;rw[if_neg (by rw[h];simp),if_pos h2]
theorem DZ{g:GrI}{i:Nat}{s:List Int}(h:ic s=true)(h2:((g.2.1.take i).any (λx=>decide (x=s))||g.1.any (λr=>decide (r.1=s)))=false):j6 g i s=0:=by unfold j6;rw[if_neg (by rw[h];simp),if_neg (by rw[h2];simp)]
theorem Na{l:List (List Int)}(hl:l.length<=100000)(s:List Int):Mf N0 (l,(s,()))=some ((match l.findIdx? (λx=>decide (x=s))with|some j=>(j:Int)|none=>-1,()),()):=by
 unfold Mf
 simp only
 refine(DX l (λj=>((),((j:Int),()))) (λx=>decide (x=s)) (λj=>some (((j:Int),()),())) (some ((-1,()),())) (λj h k=>?_) (λk=>?_) N0 (ik hl)).trans ?_
 ·simp only
  rw[decide_eq_true (show(j:Int)<((l.length:Nat):Int) by omega),cond_true,if_pos (by omega),aa,ah h]
  simp only
  by_cases e:l[j]=s
  ·rw[decide_eq_true e.symm,cond_true,decide_eq_true e,if_pos rfl]
  ·rw[decide_eq_false (λh=>e h.symm),cond_false,decide_eq_false e,if_neg (by simp),bo h (le_max hl)]
 ·simp only
  rw[decide_eq_false (by omega),cond_false]
 ·cases l.findIdx? (λx=>decide (x=s)) <;> rfl
theorem Js{α:Type}(l:List α)(f:α->Bool):decide ((0:Int)<=match l.findIdx? f with|some j=>(j:Int)|none=>-1)=l.any f:=by
 cases h:l.findIdx? f with
 |none=>
  rw[List.findIdx?_eq_none_iff]at h
  have:l.any f=false:=by
   rw[List.any_eq_false]
   intro x hx
   simpa using h x hx
  rw[this]
  rfl
 |some j=>
  obtain⟨h1,h2,_⟩:=List.findIdx?_eq_some_iff_getElem.1 h
  have:l.any f=true:=gJ.2 ⟨_,bp h1,h2⟩
  rw[this]
  exact decide_eq_true (by simp)
theorem PN{l:List (List Int)}(hl:l.length<=100000)(s:List Int):p90 N0 (l,(s,()))=some ((l.any (λx=>decide (x=s)),()),()):=by
 unfold p90
 simp only
 rw[ae (Na hl s)]
 simp only
 rw[Js]
theorem PO{l:List RuI}(hl:l.length<=100000)(s:List Int):p91 N0 (l,(s,()))=some ((match l.findIdx? (λr=>decide (r.1=s))with|some j=>(j:Int)|none=>-1,()),()):=by
 unfold p91
 simp only
 refine(DX l (λj=>((),((j:Int),()))) (λr=>decide (r.1=s)) (λj=>some (((j:Int),()),())) (some ((-1,()),())) (λj h k=>?_) (λk=>?_) N0 (ik hl)).trans ?_
 ·simp only
  rw[decide_eq_true (show(j:Int)<((l.length:Nat):Int) by omega),cond_true,if_pos (by omega),aa,ah h]
  simp only
  by_cases e:l[j].1=s
  ·rw[decide_eq_true e,cond_true,if_pos rfl]
  ·rw[decide_eq_false e,cond_false,if_neg (by simp),bo h (le_max hl)]
 ·simp only
  rw[decide_eq_false (by omega),cond_false]
 ·cases l.findIdx? (λr=>decide (r.1=s)) <;> rfl
abbrev Flt:=Int×(Int×Int)
theorem PP{g:GrI}(ok:sS g):p59 N0 (g,())=some (((if 300<g.2.1.length then((6:Int),((2:Int),(g.2.1.length:Int)))else match cN (j6 g) 0 g.2.1 with|some p=>(p.1,((2:Int),(p.2:Int)))|none=>((0:Int),((0:Int),(0:Int)))),()),()):=by
 unfold p59
 simp only
 by_cases h3:300<g.2.1.length
 ·rw[decide_eq_true (show(300:Int)<((g.2.1.length:Nat):Int) by omega),cond_true,if_pos h3]
 rw[decide_eq_false (show ¬(300:Int)<((g.2.1.length:Nat):Int) by omega),cond_false,if_neg h3]
 refine(rR g.2.1 (λj=>((((0:Int),((0:Int),(0:Int))),()),((j:Int),()))) (j6 g) (λe j=>some (((e,(2,(j:Int))),()),())) (some (((0,(0,0)),()),())) (λj h k=>?_) (λk=>?_) N0 (ik ok.s0)).trans ?_
 ·simp only
  have hs:=ok.s1 _ (bp h)
  rw[decide_eq_true (show(j:Int)<((g.2.1.length:Nat):Int) by omega),cond_true,if_pos (by omega),aa,ah h]
  simp only
  generalize g.2.1[j]=s at hs
  rw[ae (Cj hs.1 hs.2)]
  simp only
  cases hn:ic s
  ·rw[DY hn,aJ,cond_true,if_neg (by omega)]
  rw[aB,cond_false]
  refine aV ((((0:Int),((0:Int),(0:Int))),()),((g.2.1.take j).any (λx=>decide (x=s))||g.1.any (λr=>decide (r.1=s)),())) (λK=>?_) ?_
  ·rw[if_pos ⟨by omega,by omega,by omega⟩,wO _ _ (by omega),ae (PN (by rw[aK];have:=ok.s0;omega) s)]
   simp only
   cases(g.2.1.take j).any (λx=>decide (x=s))
   ·rw[cond_false,ae (PO ok.r0 s)]
    simp only
    rw[Js,cP]
   ·rw[cond_true,dV]
  ·simp only
   cases h2:((g.2.1.take j).any (λx=>decide (x=s))||g.1.any (λr=>decide (r.1=s)))
   ·rw[DZ hn h2,cond_false,if_pos rfl,bo h (le_max ok.s0)]
   ·rw[yc hn h2,cond_true,if_neg (by omega)]
 ·simp only
  rw[decide_eq_false (by omega),cond_false]
 ·cases cN (j6 g) 0 g.2.1 <;> rfl
theorem PQ{g:GrI}(ok:sS g){i:Nat}{s:List Int}(hi:g.2.1[i]?=some s):p36 N0 (g,((i:Int),()))=some ((j6 g i s,()),()):=by
 have hlt:i<g.2.1.length:=(bw.1 hi).1
 have hs:=ok.s1 _ (dg hi)
 have h0:=ok.s0
 unfold p36
 simp only
 rw[if_pos (by omega),aa,hi]
 simp only
 rw[ae (Ci hs.1 hs.2)]
 simp only
 cases hn:ic s
 ·rw[DY hn,aJ,cond_true]
 rw[aB,cond_false]
 have hlen:(g.2.1.take i).length=i:=by rw[aK];omega
 refine(fJ (g.2.1.take i) (λx=>!decide (x=s)) (some ((9,()),())) (if g.1.any (λr=>decide (r.1=s))=true then some ((9,()),())else some ((0,()),())) (λj=>((),((j:Int),()))) (λj h k=>?_) (λk=>?_) N0 (by rw[hlen];exact ik (by omega))).trans ?_
 ·simp only
  rw[decide_eq_true (show(j:Int)<(i:Int) by omega),cond_true,if_pos (by omega),aa,ah (show j<g.2.1.length by omega)]
  simp only
  rw[if_pos (show(0:Int)<=(i:Int) by omega)]
  rw[List.getElem_take]
  by_cases e:g.2.1[j]=s
  ·rw[decide_eq_true e,cond_true,if_neg (by simp)]
  ·rw[decide_eq_false e,cond_false,if_pos (by simp),bo (show j<g.2.1.length by omega) (le_max h0)]
 ·simp only
  rw[hlen,decide_eq_false (by omega),cond_false]
  refine(fJ g.1 (λr=>!decide (r.1=s)) (some ((9,()),())) (some ((0,()),())) (λj=>((),((j:Int),()))) (λj h k=>?_) (λk=>?_) N0 (ik ok.r0)).trans ?_
  ·simp only
   rw[decide_eq_true (show(j:Int)<((g.1.length:Nat):Int) by omega),cond_true,if_pos (by omega),aa,ah h]
   simp only
   rw[if_pos (show(0:Int)<=(i:Int) by omega)]
   by_cases e:g.1[j].1=s
   ·rw[decide_eq_true e,cond_true,if_neg (by simp)]
   ·rw[decide_eq_false e,cond_false,if_pos (by simp),bo h (le_max ok.r0)]
  ·simp only
   rw[decide_eq_false (by omega),cond_false]
  ·have:g.1.all (λr=>!decide (r.1=s))=!g.1.any (λr=>decide (r.1=s)):=by rw[List.not_any_eq_all_not]
   rw[this]
   cases g.1.any (λr=>decide (r.1=s)) <;> rfl
 ·have h1:(g.2.1.take i).all (λr=>!decide (r=s))=!(g.2.1.take i).any (λr=>decide (r=s)):=by rw[List.not_any_eq_all_not]
  rw[h1]
  cases h2:(g.2.1.take i).any (λr=>decide (r=s))
  ·rw[aJ,if_pos rfl]
   cases h3:g.1.any (λr=>decide (r.1=s))
   ·rw[DZ hn (by rw[h2,h3];rfl),if_neg (by simp)]
   ·rw[yc hn (by rw[h2,h3];rfl),if_pos rfl]
  ·rw[yc hn (by rw[h2];rfl),aB,if_neg (by simp)]
end
noncomputable section
def qf(h:Int):Bool:=decide (0<=h/\h<=3)
def AG(g:GrI)(p:PrI):Int:=if ¬p.2.2.2.2.1=-1/\gq g (false,p.2.2.2.2.1)=false then 11 else if p.2.2.2.1=true/\nE p=false then 15 else 0
def AH(g:GrI)(p:PrI):Int:=if p.2.2.2.2.2.all qf=true then AG g p else 1
def AI(g:GrI)(p:PrI):Int:=if p.2.2.1.all (gq g)=true then AH g p else 11
def nF(g:GrI)(i:Nat)(p:PrI):Int:=
 if p.1<0\/(g.2.1.length:Int)<=p.1 then 11 else if ic p.2.1=false then 8 else if 12<p.2.2.1.length then 6 else if ¬p.2.2.2.2.2.length=p.2.2.1.length-1 then 1
 else if(g.2.2.1.take i).all (λq=>!decide (q.2.1=p.2.1))=true then AI g p else 9
theorem Gp{g:GrI}{n:Int}(h:n<0):gq g (false,n)=false:=by
 unfold gq
 rw[if_neg (by simp),decide_eq_false (by omega),dI]
theorem wP{n:Nat}(h:n<=100000):IntKind.wrap .i64 ((n:Int)-1)=(n:Int)-1:=bC (by omega) (by omega)
theorem PR{g:GrI}(ok:sS g){i:Nat}{p:PrI}(hi:g.2.2.1[i]?=some p):p60 N0 (g,((i:Int),()))=some ((nF g i p,()),()):=by
 have hlt:i<g.2.2.1.length:=(bw.1 hi).1
 have hm:=dg hi
 have hs:=ok.p1 _ hm
 have hb:=ok.p2 _ hm
 have hh:=ok.p3 _ hm
 have h0:=ok.p0
 have hlen:(g.2.2.1.take i).length=i:=by rw[aK];omega
 unfold p60
 simp only
 rw[if_pos (by omega),aa,hi]
 simp only
 refine aV ((),(decide (p.1<0\/(g.2.1.length:Int)<=p.1),())) (λK=>?_) ?_
 ·by_cases q1:p.1<0
  ·rw[decide_eq_true q1,cond_true,decide_eq_true (.inl q1)]
  ·rw[decide_eq_false q1,cond_false]
   have:decide (p.1<0\/(g.2.1.length:Int)<=p.1)=decide ((g.2.1.length:Int)<=p.1):=by rw[decide_eq_decide];exact⟨λh=>h.resolve_left q1,.inr⟩
   rw[this]
 simp only
 unfold nF
 by_cases e1:p.1<0\/(g.2.1.length:Int)<=p.1
 ·rw[decide_eq_true e1,cond_true,if_pos e1]
 rw[decide_eq_false e1,cond_false,if_neg e1,ae (Cj hs.1 hs.2)]
 simp only
 cases e2:ic p.2.1
 ·rw[aJ,cond_true,if_pos rfl]
 rw[aB,cond_false,if_neg (show ¬(true=false) by simp)]
 by_cases e3:12<p.2.2.1.length
 ·rw[decide_eq_true (show(12:Int)<((p.2.2.1.length:Nat):Int) by omega),cond_true,if_pos e3]
 rw[decide_eq_false (show ¬(12:Int)<((p.2.2.1.length:Nat):Int) by omega),cond_false,if_neg e3,wP hb]
 have hw:(if((p.2.2.1.length:Nat):Int)-1<0 then(0:Int)else((p.2.2.1.length:Nat):Int)-1)=((p.2.2.1.length-1:Nat):Int):=by split <;> omega
 rw[hw]
 by_cases e4:p.2.2.2.2.2.length=p.2.2.1.length-1
 case neg=>rw[decide_eq_false (show ¬((p.2.2.2.2.2.length:Nat):Int)=((p.2.2.1.length-1:Nat):Int) by omega),aJ,cond_true,if_pos e4]
 rw[decide_eq_true (show((p.2.2.2.2.2.length:Nat):Int)=((p.2.2.1.length-1:Nat):Int) by omega),aB,cond_false,if_neg (show ¬¬p.2.2.2.2.2.length=p.2.2.1.length-1 from λh=>h e4)]
 rw[if_pos ⟨by omega,by omega,by omega⟩,wO _ _ (by omega)]
 refine fJ (g.2.2.1.take i) (λq=>!decide (q.2.1=p.2.1)) (some ((9,()),())) (some ((AI g p,()),())) (λj=>((),((j:Int),()))) (λj h k=>?_) (λk=>?_) N0 (by rw[hlen];exact ik (by omega)) |>.trans ?_
 ·simp only
  rw[decide_eq_true (show(j:Int)<(((g.2.2.1.take i).length:Nat):Int) by omega),cond_true,if_pos (by omega),aa,ah h]
  simp only
  by_cases e:(g.2.2.1.take i)[j].2.1=p.2.1
  ·rw[decide_eq_true e,cond_true,if_neg (by simp)]
  ·rw[decide_eq_false e,cond_false,if_pos (by simp),bo h (le_max (by omega))]
 ·simp only
  rw[decide_eq_false (by omega),cond_false]
  refine fJ p.2.2.1 (gq g) (some ((11,()),())) (some ((AH g p,()),())) (λj=>((),((j:Int),()))) (λj h k=>?_) (λk=>?_) N0 (ik hb) |>.trans ?_
  ·simp only
   rw[decide_eq_true (show(j:Int)<((p.2.2.1.length:Nat):Int) by omega),cond_true,if_pos (by omega),aa,ah h]
   simp only
   rw[ae (Cm g _)]
   simp only
   cases gq g p.2.2.1[j]
   ·rw[aJ,cond_true,if_neg (by simp)]
   ·rw[aB,cond_false,if_pos rfl,bo h (le_max hb)]
  ·simp only
   rw[decide_eq_false (by omega),cond_false]
   refine fJ p.2.2.2.2.2 qf (some ((1,()),())) (some ((AG g p,()),())) (λj=>((),((j:Int),()))) (λj h k=>?_) (λk=>?_) N0 (ik hh) |>.trans ?_
   ·simp only
    rw[decide_eq_true (show(j:Int)<((p.2.2.2.2.2.length:Nat):Int) by omega),cond_true,if_pos (by omega),aa,ah h]
    simp only
    generalize p.2.2.2.2.2[j]=v
    refine aV ((),(!qf v,())) (λK=>?_) ?_
    ·unfold qf
     by_cases q1:v<0
     ·rw[decide_eq_true q1,cond_true,decide_eq_false (by omega)];rfl
     ·rw[decide_eq_false q1,cond_false]
      have:(!decide (0<=v/\v<=3))=decide (3<v):=by
       rw[<-decide_not,decide_eq_decide];omega
      rw[this]
    ·simp only
     cases qf v
     ·rw[aJ,cond_true,if_neg (by simp)]
     ·rw[aB,cond_false,if_pos rfl,bo h (le_max hh)]
   ·simp only
    rw[decide_eq_false (by omega),cond_false]
    unfold AG
    refine aV ((),(decide (¬p.2.2.2.2.1=-1/\gq g (false,p.2.2.2.2.1)=false),())) (λK=>?_) ?_
    ·by_cases q1:p.2.2.2.2.1=-1
     ·rw[decide_eq_true q1,aB,cond_false,decide_eq_false (λh=>h.1 q1)]
     ·rw[decide_eq_false q1,aJ,cond_true]
      by_cases q2:p.2.2.2.2.1<0
      ·rw[decide_eq_true q2,cond_true,decide_eq_true ⟨q1,Gp q2⟩]
      ·rw[decide_eq_false q2,cond_false,ae (Cm g _)]
       simp only
       cases gq g (false,p.2.2.2.2.1)
       ·rw[decide_eq_true ⟨q1,rfl⟩];rfl
       ·rw[decide_eq_false (λh=>by cases h.2)];rfl
    ·simp only
     by_cases q1:¬p.2.2.2.2.1=-1/\gq g (false,p.2.2.2.2.1)=false
     ·rw[decide_eq_true q1,cond_true,if_pos q1]
     rw[decide_eq_false q1,cond_false,if_neg q1]
     refine aV ((),(decide (p.2.2.2.1=true/\nE p=false),())) (λK=>?_) ?_
     ·cases hp:p.2.2.2.1
      ·rw[cond_false,decide_eq_false (λh=>by cases h.1)]
      ·rw[cond_true,ae (PL p)]
       simp only
       cases nE p <;> simp
     ·simp only
      by_cases q2:p.2.2.2.1=true/\nE p=false
      ·rw[decide_eq_true q2,cond_true,if_pos q2]
      ·rw[decide_eq_false q2,cond_false,if_neg q2]
   ·unfold AH;split <;> rfl
  ·unfold AI;split <;> rfl
 ·split <;> rfl
theorem PS{g:GrI}(ok:sS g){i:Nat}{p:PrI}(hi:g.2.2.1[i]?=some p):p37 N0 (g,((i:Int),()))=some ((nF g i p,()),()):=by
 have hlt:i<g.2.2.1.length:=(bw.1 hi).1
 have hm:=dg hi
 have hs:=ok.p1 _ hm
 have hb:=ok.p2 _ hm
 have hh:=ok.p3 _ hm
 have h0:=ok.p0
 have hlen:(g.2.2.1.take i).length=i:=by rw[aK];omega
 unfold p37
 simp only
 rw[if_pos (by omega),aa,hi]
 simp only
 refine aV ((),(decide (p.1<0\/(g.2.1.length:Int)<=p.1),())) (λK=>?_) ?_
 ·by_cases q1:p.1<0
  ·rw[decide_eq_true q1,cond_true,decide_eq_true (.inl q1)]
  ·rw[decide_eq_false q1,cond_false]
   have:decide (p.1<0\/(g.2.1.length:Int)<=p.1)=decide ((g.2.1.length:Int)<=p.1):=by rw[decide_eq_decide];exact⟨λh=>h.resolve_left q1,.inr⟩
   rw[this]
 simp only
 unfold nF
 by_cases e1:p.1<0\/(g.2.1.length:Int)<=p.1
 ·rw[decide_eq_true e1,cond_true,if_pos e1]
 rw[decide_eq_false e1,cond_false,if_neg e1,ae (Ci hs.1 hs.2)]
 simp only
 cases e2:ic p.2.1
 ·rw[aJ,cond_true,if_pos rfl]
 rw[aB,cond_false,if_neg (show ¬(true=false) by simp)]
 by_cases e3:12<p.2.2.1.length
 ·rw[decide_eq_true (show(12:Int)<((p.2.2.1.length:Nat):Int) by omega),cond_true,if_pos e3]
 rw[decide_eq_false (show ¬(12:Int)<((p.2.2.1.length:Nat):Int) by omega),cond_false,if_neg e3,wP hb]
 have hw:(if(0:Int)<((p.2.2.1.length:Nat):Int)-1 then((p.2.2.1.length:Nat):Int)-1 else(0:Int))=((p.2.2.1.length-1:Nat):Int):=by split <;> omega
 rw[hw]
 by_cases e4:p.2.2.2.2.2.length=p.2.2.1.length-1
 case neg=>rw[decide_eq_false (show ¬((p.2.2.2.2.2.length:Nat):Int)=((p.2.2.1.length-1:Nat):Int) by omega),aJ,cond_true,if_pos e4]
 rw[decide_eq_true (show((p.2.2.2.2.2.length:Nat):Int)=((p.2.2.1.length-1:Nat):Int) by omega),aB,cond_false,if_neg (show ¬¬p.2.2.2.2.2.length=p.2.2.1.length-1 from λh=>h e4)]
 refine fJ (g.2.2.1.take i) (λq=>!decide (q.2.1=p.2.1)) (some ((9,()),())) (some ((AI g p,()),())) (λj=>((),((j:Int),()))) (λj h k=>?_) (λk=>?_) N0 (by rw[hlen];exact ik (by omega)) |>.trans ?_
 ·simp only
  rw[decide_eq_true (show(j:Int)<(i:Int) by omega),cond_true,if_pos (by omega),aa,ah (show j<g.2.2.1.length by omega)]
  simp only
  rw[List.getElem_take]
  by_cases e:g.2.2.1[j].2.1=p.2.1
  ·rw[decide_eq_true e,cond_true,if_neg (by simp)]
  ·rw[decide_eq_false e,cond_false,if_pos (by simp),bo h (le_max (by omega))]
 ·simp only
  rw[hlen,decide_eq_false (by omega),cond_false]
  refine fJ p.2.2.1 (gq g) (some ((11,()),())) (some ((AH g p,()),())) (λj=>((),((j:Int),()))) (λj h k=>?_) (λk=>?_) N0 (ik hb) |>.trans ?_
  ·simp only
   rw[decide_eq_true (show(j:Int)<((p.2.2.1.length:Nat):Int) by omega),cond_true,if_pos (by omega),aa,ah h]
   simp only
   rw[ae (Cn g _)]
   simp only
   cases gq g p.2.2.1[j]
   ·rw[aJ,cond_true,if_neg (by simp)]
   ·rw[aB,cond_false,if_pos rfl,bo h (le_max hb)]
  ·simp only
   rw[decide_eq_false (by omega),cond_false]
   refine fJ p.2.2.2.2.2 qf (some ((1,()),())) (some ((AG g p,()),())) (λj=>((),((j:Int),()))) (λj h k=>?_) (λk=>?_) N0 (ik hh) |>.trans ?_
   ·simp only
    rw[decide_eq_true (show(j:Int)<((p.2.2.2.2.2.length:Nat):Int) by omega),cond_true]
    have hg:p.2.2.2.2.2[((j:Int)).toNat]?=some p.2.2.2.2.2[j]:=by rw[aa];exact ah h
    rw[hg]
    generalize p.2.2.2.2.2[j]=v
    simp only
    refine aV ((),(!qf v,())) (λK=>?_) ?_
    ·rw[if_pos (by omega)]
     unfold qf
     by_cases q1:v<0
     ·rw[decide_eq_true q1,cond_true,decide_eq_false (by omega)];rfl
     ·rw[decide_eq_false q1,cond_false]
      have:(!decide (0<=v/\v<=3))=decide (3<v):=by
       rw[<-decide_not,decide_eq_decide];omega
      rw[this,if_pos (by omega)]
    ·simp only
     cases qf v
     ·rw[aJ,cond_true,if_neg (by simp)]
     ·rw[aB,cond_false,if_pos rfl,bo h (le_max hh)]
   ·simp only
    rw[decide_eq_false (by omega),cond_false]
    unfold AG
    refine aV ((),(decide (¬p.2.2.2.2.1=-1/\gq g (false,p.2.2.2.2.1)=false),())) (λK=>?_) ?_
    ·by_cases q1:p.2.2.2.2.1=-1
     ·rw[decide_eq_true q1,aB,cond_false,decide_eq_false (λh=>h.1 q1)]
     ·rw[decide_eq_false q1,aJ,cond_true,ae (Cn g _)]
      simp only
      cases gq g (false,p.2.2.2.2.1)
      ·rw[decide_eq_true ⟨q1,rfl⟩];rfl
      ·rw[decide_eq_false (λh=>by cases h.2)];rfl
    ·simp only
     by_cases q1:¬p.2.2.2.2.1=-1/\gq g (false,p.2.2.2.2.1)=false
     ·rw[decide_eq_true q1,cond_true,if_pos q1]
     rw[decide_eq_false q1,cond_false,if_neg q1]
     refine aV ((),(decide (p.2.2.2.1=true/\nE p=false),())) (λK=>?_) ?_
     ·cases hp:p.2.2.2.1
      ·rw[cond_false,decide_eq_false (λh=>by cases h.1)]
      ·rw[cond_true,ae (PM p)]
       simp only
       cases nE p <;> simp
     ·simp only
      by_cases q2:p.2.2.2.1=true/\nE p=false
      ·rw[decide_eq_true q2,cond_true,if_pos q2]
      ·rw[decide_eq_false q2,cond_false,if_neg q2]
   ·unfold AH;split <;> rfl
  ·unfold AI;split <;> rfl
 ·split <;> rfl
end
noncomputable section
def ahead(g:GrI)(i:Nat):List Int:=(g.2.2.2.1.take i).flatMap λl=>l.2
theorem uJ{g:GrI}{i:Nat}{l:LvI}(h:g.2.2.2.1[i]?=some l):ahead g (i+1)=ahead g i++l.2:=by
 unfold ahead
 rw[jA,h]
 simp
def uK(g:GrI)(i:Nat)(l:LvI)(k:Nat)(r:Int):Int:=
 if gq g (false,r)=false then 11 else if r∈ahead g i++l.2.take k then 9 else 0
def qg(g:GrI)(i:Nat)(l:LvI):Int:=
 if l.1<1\/3<l.1\/l.2.length=0\/60<=i then 1 else match cN (uK g i l) 0 l.2 with|some p=>p.1|none=>0
abbrev IM:=List (Int×Int)
def eqZ:Int->Int->Bool:=λa b=>decide (a=b)
theorem Gq(k k' v:Int):∀ x:IM,cS eqZ k (fe eqZ k' v x)=if k=k' then v else cS eqZ k x:=by
 intro x
 induction x with
 |nil=>
  simp only[fe,cS,eqZ]
  by_cases e:k=k' <;> simp[e]
 |cons p r ih=>
  simp only[fe]
  by_cases e:k'=p.1
  ·have:eqZ k' p.1=true:=decide_eq_true e
   rw[this,cond_true]
   simp only[cS]
   rw[<-e]
   by_cases e2:k=k'
   ·rw[show eqZ k k'=true from decide_eq_true e2,if_pos e2];rfl
   ·rw[show eqZ k k'=false from decide_eq_false e2,if_neg e2];rfl
  ·have:eqZ k' p.1=false:=decide_eq_false e
   rw[this,cond_false]
   simp only[cS]
   by_cases e2:k=p.1
   ·rw[show eqZ k p.1=true from decide_eq_true e2,cond_true,cond_true]
    rw[if_neg]
    rintro rfl
    exact e e2
   ·rw[show eqZ k p.1=false from decide_eq_false e2,cond_false,cond_false,ih]
def AJ(L:List Int)(m:IM):Prop:=∀ k,cS eqZ k m=if k∈L then 1 else 0
theorem AJ.next{L:List Int}{m:IM}(h:AJ L m){r:Int}(hr:¬r∈L):AJ (L++[r]) (fe eqZ r (IntKind.wrap .i64 (cS eqZ r m+1)) m):=by
 intro k
 rw[Gq,h r,if_neg hr]
 by_cases e:k=r
 ·subst e;simp;rfl
 ·rw[if_neg e,h k];simp[e]
theorem D1{α A R:Type}{body:A->(A->Option R)->Option R}(l:List α)(I:Nat->A->Prop)(spec:Nat->Option R)
 (step:∀ j,(h:j<l.length)->∀ x,I j x->∀ k,(∀ y,I (j+1) y->k y=spec (j+1))->body x k=spec j) (fin:∀ x,I l.length x->∀ k,body x k=spec l.length):
 ∀ n j x,j<=l.length->l.length-j<n->I j x->aF body n x=spec j:=by
 intro n
 induction n with
 |zero=>intro j x _ h;omega
 |succ n ih=>
  intro j x hj hn hi
  rw[eI]
  rcases ap j l.length with h|h
  ·exact step j h x hi _ (λy hy=>ih (j+1) y h (by omega) hy)
  ·have:j=l.length:=by omega
   subst this
   exact fin x hi _
theorem PT{g:GrI}(ok:sS g):p61 N0 (g,())=some (((match cN (qg g) 0 g.2.2.2.1 with|some p=>(p.1,((4:Int),(p.2:Int)))|none=>((0:Int),((0:Int),(0:Int)))),()),()):=by
 unfold p61
 simp only
 rw[show(λ(a b:Int)=>decide (a=b))=eqZ from rfl]
 refine(D1 g.2.2.2.1 (λj x=>∃ m:IM,x=((((0:Int),((0:Int),(0:Int))),(m,())),((j:Int),()))/\AJ (ahead g j) m) (λj=>some (((match cN (qg g) j (g.2.2.2.1.drop j)with|some p=>(p.1,((4:Int),(p.2:Int)))|none=>((0:Int),((0:Int),(0:Int)))),()),())) (λj h x hx k hk=>?_) (λx hx k=>?_) N0 0 _ (aH _) (by rw[Nat.sub_zero];exact ik ok.l0) ⟨[],rfl,λk=>by simp[cS,ahead]⟩).trans (by rw[dn])
 ·obtain⟨m,rfl,hm⟩:=hx
  simp only
  have hl:=ok.l1 _ (bp h)
  have hg:g.2.2.2.1[j]?=some g.2.2.2.1[j]:=ah h
  rw[decide_eq_true (show(j:Int)<((g.2.2.2.1.length:Nat):Int) by omega),cond_true,if_pos (by omega),aa,hg,db h]
  generalize g.2.2.2.1[j]=l at hl hg
  simp only
  refine aV ((((0:Int),((0:Int),(0:Int))),(m,())),(decide (l.1<1\/3<l.1\/l.2.length=0\/60<=j),())) (λK=>?_) ?_
  ·by_cases q1:l.1<1
   ·rw[decide_eq_true q1,cond_true,decide_eq_true (.inl q1)]
   rw[decide_eq_false q1,cond_false]
   by_cases q2:3<l.1
   ·rw[decide_eq_true q2,cond_true,decide_eq_true (.inr (.inl q2))]
   rw[decide_eq_false q2,cond_false]
   by_cases q3:l.2.length=0
   ·rw[decide_eq_true (show((l.2.length:Nat):Int)=0 by omega),cond_true,decide_eq_true (.inr (.inr (.inl q3)))]
   rw[decide_eq_false (show ¬((l.2.length:Nat):Int)=0 by omega),cond_false]
   have:decide ((60:Int)<=(j:Int))=decide (l.1<1\/3<l.1\/l.2.length=0\/60<=j):=by rw[decide_eq_decide];omega
   rw[this]
  ·simp only
   simp only[cN]
   by_cases q:l.1<1\/3<l.1\/l.2.length=0\/60<=j
   ·have e1:qg g j l=1:=by unfold qg;rw[if_pos q]
    rw[decide_eq_true q,cond_true,e1,if_neg (by omega)]
   have e1:qg g j l=match cN (uK g j l) 0 l.2 with|some p=>p.1|none=>0:=by unfold qg;rw[if_neg q]
   rw[decide_eq_false q,cond_false]
   have hz:∀ k,uK g j l k=λr=>uK g j l k r:=λ_=>rfl
   refine(D1 l.2 (λi x=>∃ m:IM,x=((((0:Int),((0:Int),(0:Int))),(m,())),((i:Int),()))/\AJ (ahead g j++l.2.take i) m) (λi=>match cN (uK g j l) i (l.2.drop i)with|some p=>some (((p.1,((4:Int),(j:Int))),()),())|none=>some (((match cN (qg g) (j+1) (g.2.2.2.1.drop (j+1))with|some p=>(p.1,((4:Int),(p.2:Int)))|none=>((0:Int),((0:Int),(0:Int)))),()),())) (λi hi x hx k2 hk2=>?_) (λx hx k2=>?_) N0 0 _ (aH _) (by rw[Nat.sub_zero];exact ik hl) ⟨m,rfl,by rw[List.take_zero,b9];exact hm⟩).trans ?_
   ·obtain⟨m,rfl,hm⟩:=hx
    simp only
    have hgi:l.2[i]?=some l.2[i]:=ah hi
    have htk:l.2.take (i+1)=l.2.take i++[l.2[i]]:=by rw[jA,hgi];rfl
    rw[decide_eq_true (show(i:Int)<((l.2.length:Nat):Int) by omega),cond_true,if_pos (by omega),aa,hgi,db hi]
    generalize l.2[i]=r at htk
    simp only
    rw[ae (Cm g _)]
    simp only[cN]
    unfold uK
    cases hs:gq g (false,r)
    ·rw[aJ,cond_true,if_pos rfl,if_neg (by omega)]
    rw[aB,cond_false,if_neg (show ¬(true=false) by simp),hm r]
    by_cases hr:r∈ahead g j++l.2.take i
    ·rw[if_pos hr,if_pos hr,show decide ((0:Int)<1)=true from rfl,cond_true,if_neg (by omega)]
    ·rw[if_neg hr,if_neg hr,show decide ((0:Int)<0)=false from rfl,cond_false,if_pos rfl,bo hi (le_max hl)]
     have hn:=hm.next hr
     rw[hm r,if_neg hr]at hn
     exact hk2 _ ⟨_,rfl,by rw[htk,<-aM];exact hn⟩
   ·obtain⟨m,rfl,hm⟩:=hx
    simp only
    rw[decide_eq_false (by omega),cond_false,bo h (le_max ok.l0),ft]
    simp only[cN]
    rw[di]at hm
    exact hk _ ⟨m,rfl,by rw[uJ hg];exact hm⟩
   ·rw[dn]
    rw[e1]
    have hne:∀ (l':List Int) (i:Nat) (p:Int×Nat),cN (uK g j l) i l'=some p->¬p.1=0:=by
     intro l'
     induction l' with
     |nil=>intro i p h;cases h
     |cons a r ih=>
      intro i p h
      simp only[cN]at h
      split at h
      ·exact ih _ _ h
      ·rename_i hn;injection h with h;rw[<-h];exact hn
    cases hf:cN (uK g j l) 0 l.2 with
    |none=>simp only[if_true]
    |some p=>
     simp only
     rw[if_neg (hne _ _ _ hf)]
 ·obtain⟨m,rfl,hm⟩:=hx
  simp only
  rw[decide_eq_false (by omega),cond_false,ft]
  rfl
end
noncomputable section
theorem Gr{g:GrI}{i:Nat}{r:Int}:r∈ahead g i↔∃ a l,a<i/\g.2.2.2.1[a]?=some l/\r∈l.2:=by
 unfold ahead
 rw[dU]
 constructor
 ·rintro⟨l,h1,h2⟩
  obtain⟨a,ha⟩:=kL.1 h1
  rw[ez]at ha
  split at ha
  ·exact⟨a,l,by assumption,ha,h2⟩
  ·cases ha
 ·rintro⟨a,l,h1,h2,h3⟩
  refine⟨l,kL.2 ⟨a,?_⟩,h3⟩
  rw[ez,if_pos h1,h2]
theorem PU{g:GrI}(ok:sS g){i:Nat}{l:LvI}(hi:g.2.2.2.1[i]?=some l){k:Nat}{r:Int}(hk:l.2[k]?=some r):p70 N0 (g,((i:Int),((k:Int),())))=some ((decide (r∈ahead g i++l.2.take k),()),()):=by
 have hlt:i<g.2.2.2.1.length:=(bw.1 hi).1
 have hkt:k<l.2.length:=(bw.1 hk).1
 have h0:=ok.l0
 unfold p70
 simp only
 refine aZ (λm x q=>∃ a:Nat,x=((),((a:Int),()))/\m+a=i+1/\a<=i/\¬r∈ahead g a/\q=some ((decide (r∈ahead g i++l.2.take k),()),())) ?_ N0 (i+1) _ _ (by unfold N0;omega) ⟨0,rfl,rfl,aH _,by simp[ahead],rfl⟩
 rintro m x q ⟨a,rfl,hm,hai,hna,rfl⟩ kk hkk
 simp only
 rw[decide_eq_true (show(a:Int)<=(i:Int) by omega),cond_true]
 have ha:g.2.2.2.1[a]?=some (g.2.2.2.1[a]'(by omega)):=ah _
 have hla:=ok.l1 _ (bp (show a<g.2.2.2.1.length by omega))
 generalize g.2.2.2.1[a]'(by omega)=la at ha hla
 simp only[aa,ha,hi]
 refine aZ (λm x q=>∃ b:Nat,x=((),((b:Int),()))/\m+b=la.2.length/\¬r∈la.2.take b/\(a=i->b<=k)/\q=some ((decide (r∈ahead g i++l.2.take k),()),())) ?_ N0 la.2.length _ _ (by unfold N0;omega) ⟨0,rfl,rfl,by simp,λ_=>aH _,rfl⟩
 rintro m2 x q ⟨b,rfl,hm2,hnb,hbk,rfl⟩ k2 hk2
 simp only[aa]
 rw[if_pos (by omega)]
 rcases ap b la.2.length with hb|hb
 ·rw[decide_eq_true (show(b:Int)<((la.2.length:Nat):Int) by omega),cond_true]
  have hgb:la.2[b]?=some la.2[b]:=ah hb
  have htk:la.2.take (b+1)=la.2.take b++[la.2[b]]:=by rw[jA,hgb];rfl
  have hin:la.2[b]∈la.2:=bp hb
  simp only[hgb,hk]
  generalize la.2[b]=rb at htk hin hgb
  refine aV ((),(decide (a=i/\k<=b),())) (λK=>?_) ?_
  ·by_cases e:a=i
   ·rw[decide_eq_true (show(a:Int)=(i:Int) by omega),cond_true]
    have:decide ((k:Int)<=(b:Int))=decide (a=i/\k<=b):=by rw[decide_eq_decide];omega
    rw[this]
   ·rw[decide_eq_false (show ¬(a:Int)=(i:Int) by omega),cond_false,decide_eq_false (λh=>e h.1)]
  ·simp only
   by_cases e:a=i/\k<=b
   ·rw[decide_eq_true e,cond_true]
    obtain⟨rfl,hkb⟩:=e
    have hbk:=hbk rfl
    have:b=k:=by omega
    subst this
    rw[hi]at ha
    injection ha with ha
    subst ha
    rw[decide_eq_false (λh=>(ar.1 h).elim hna hnb)]
   ·rw[decide_eq_false e,cond_false,if_pos (by omega),if_pos (by omega),if_pos (by omega),if_pos (by omega)]
    by_cases er:rb=r
    ·subst er
     rw[decide_eq_true rfl,cond_true,decide_eq_true]
     by_cases eai:a=i
     ·subst eai
      rw[hi]at ha
      injection ha with ha
      subst ha
      refine ar.2 (.inr (kL.2 ⟨b,?_⟩))
      rw[ez,if_pos (by omega),hgb]
     ·exact ar.2 (.inl (Gr.2 ⟨a,la,by omega,ha,hin⟩))
    ·rw[decide_eq_false er,cond_false,bo hb (le_max hla)]
     refine hk2 (m2-1) _ _ (by omega) ⟨b+1,rfl,by omega,?_,λh=>by omega,rfl⟩
     rw[htk]
     intro h
     rcases ar.1 h with h|h
     ·exact hnb h
     ·simp at h;exact er h.symm
 ·rw[decide_eq_false (show ¬(b:Int)<((la.2.length:Nat):Int) by omega),cond_false,bo (show a<g.2.2.2.1.length by omega) (le_max h0)]
  have:b=la.2.length:=by omega
  subst this
  rw[di]at hnb
  have wo:¬r∈ahead g (a+1):=by
   rw[uJ ha]
   intro h
   exact(ar.1 h).elim hna hnb
  have Vf:a<i:=by
   rcases ap a i with h|h
   ·exact h
   ·exfalso
    have:a=i:=by omega
    subst this
    rw[hi]at ha
    injection ha with ha
    subst ha
    have:=hbk rfl
    omega
  exact hkk (m-1) _ _ (by omega) ⟨a+1,rfl,by omega,by omega,wo,rfl⟩
theorem PV{g:GrI}(ok:sS g){i:Nat}{l:LvI}(hi:g.2.2.2.1[i]?=some l):p38 N0 (g,((i:Int),()))=some ((qg g i l,()),()):=by
 have hl:=ok.l1 _ (dg hi)
 unfold p38
 simp only
 rw[if_pos (by omega),aa,hi]
 simp only
 refine aV ((),(decide (l.1<1\/3<l.1\/l.2.length=0\/60<=i),())) (λK=>?_) ?_
 ·by_cases q1:l.1<1
  ·rw[decide_eq_true q1,cond_true,decide_eq_true (.inl q1)]
  rw[decide_eq_false q1,cond_false]
  by_cases q2:3<l.1
  ·rw[decide_eq_true q2,cond_true,decide_eq_true (.inr (.inl q2))]
  rw[decide_eq_false q2,cond_false]
  by_cases q3:l.2.length=0
  ·rw[decide_eq_true (show((l.2.length:Nat):Int)=0 by omega),cond_true,decide_eq_true (.inr (.inr (.inl q3)))]
  rw[decide_eq_false (show ¬((l.2.length:Nat):Int)=0 by omega),cond_false]
  have:decide ((60:Int)<=(i:Int))=decide (l.1<1\/3<l.1\/l.2.length=0\/60<=i):=by rw[decide_eq_decide];omega
  rw[this]
 ·simp only
  unfold qg
  by_cases q:l.1<1\/3<l.1\/l.2.length=0\/60<=i
  ·rw[decide_eq_true q,cond_true,if_pos q]
  rw[decide_eq_false q,cond_false,if_neg q]
  refine(rR l.2 (λj=>((),((j:Int),()))) (uK g i l) (λe _=>some ((e,()),())) (some ((0,()),())) (λj h k=>?_) (λk=>?_) N0 (ik hl)).trans ?_
  ·simp only
   have hg:l.2[j]?=some l.2[j]:=ah h
   rw[decide_eq_true (show(j:Int)<((l.2.length:Nat):Int) by omega),cond_true,if_pos (by omega),aa,hg]
   generalize l.2[j]=r at hg
   simp only
   rw[ae (Cn g _)]
   simp only
   unfold uK
   cases hs:gq g (false,r)
   ·rw[aJ,cond_true,if_pos rfl,if_neg (by omega)]
   rw[aB,cond_false,if_neg (show ¬(true=false) by simp),ae (PU ok hi hg)]
   simp only
   by_cases hr:r∈ahead g i++l.2.take j
   ·rw[if_pos hr,decide_eq_true hr,cond_true,if_neg (by omega)]
   ·rw[if_neg hr,decide_eq_false hr,cond_false,if_pos rfl,bo h (le_max hl)]
  ·simp only
   rw[decide_eq_false (by omega),cond_false]
  ·cases cN (uK g i l) 0 l.2 <;> rfl
def D2(g:GrI):Flt:=if g.2.2.2.2<0\/(g.2.1.length:Int)<=g.2.2.2.2 then(11,(5,0))else(0,(0,0))
def AK(g:GrI):Flt:=match cN (qg g) 0 g.2.2.2.1 with
 |some p=>(p.1,(4,(p.2:Int)))
 |none=>D2 g
def D3(g:GrI):Flt:=if 200<g.2.2.1.length then(6,(3,(g.2.2.1.length:Int)))else match cN (nF g) 0 g.2.2.1 with
 |some p=>(p.1,(3,(p.2:Int)))
 |none=>AK g
def D4(g:GrI):Flt:=if 300<g.2.1.length then(6,(2,(g.2.1.length:Int)))else match cN (j6 g) 0 g.2.1 with
 |some p=>(p.1,(2,(p.2:Int)))
 |none=>D3 g
def ie(g:GrI):Flt:=
 if ¬(lJ g.1).2=0 then((lJ g.1).2,(1,((lJ g.1).1:Int)))else D4 g
def gP(v:Flt):Option ((Int×(Int×(Int×Unit)))×Unit):=some ((v.1,(v.2.1,(v.2.2,()))),())
theorem wQ{α:Type}{E:Nat->α->Int}:∀ {l:List α} {i:Nat} {p:Int×Nat},cN E i l=some p->¬p.1=0:=by
 intro l
 induction l with
 |nil=>intro i p h;cases h
 |cons a r ih=>
  intro i p h
  simp only[cN]at h
  split at h
  ·exact ih h
  ·rename_i hn;injection h with h;rw[<-h];exact hn
theorem Jt{g:GrI}(ok:sS g)(h12:∀ r∈g.1,r.2.2.length<=12):p31 N0 (g,())=some ((ie g,()),()):=by
 unfold p31 ie
 simp only
 rw[ae (PK (le_max ok.r0) ok.r1 h12)]
 simp only
 by_cases e1:(lJ g.1).2=0
 case neg=>rw[decide_eq_false e1,aJ,cond_true,if_pos e1]
 rw[decide_eq_true e1,aB,cond_false,if_neg (show ¬¬(lJ g.1).2=0 from λh=>h e1),ae (PP ok)]
 simp only
 unfold D4
 by_cases e2:300<g.2.1.length
 ·rw[if_pos e2,if_pos e2];rfl
 rw[if_neg e2,if_neg e2]
 cases e3:cN (j6 g) 0 g.2.1 with
 |some p=>
  simp only
  rw[decide_eq_false (wQ e3),aJ,cond_true]
 |none=>
 simp only
 rw[decide_true,aB,cond_false]
 unfold D3
 by_cases e4:200<g.2.2.1.length
 ·rw[decide_eq_true (show(200:Int)<((g.2.2.1.length:Nat):Int) by omega),cond_true,if_pos e4]
 rw[decide_eq_false (show ¬(200:Int)<((g.2.2.1.length:Nat):Int) by omega),cond_false,if_neg e4]
 refine(rR g.2.2.1 (λj=>((((0:Int),((0:Int),(0:Int))),()),((j:Int),()))) (nF g) (λe j=>some (((e,(3,(j:Int))),()),())) (some ((AK g,()),())) (λj h k=>?_) (λk=>?_) N0 (ik ok.p0)).trans ?_
 ·simp only
  rw[decide_eq_true (show(j:Int)<((g.2.2.1.length:Nat):Int) by omega),cond_true,ae (PR ok (ah h))]
  simp only
  by_cases e:nF g j g.2.2.1[j]=0
  ·rw[decide_eq_true e,aB,cond_false,if_pos e,bo h (le_max ok.p0)]
  ·rw[decide_eq_false e,aJ,cond_true,if_neg e]
 ·simp only
  rw[decide_eq_false (by omega),cond_false,ae (PT ok)]
  simp only
  unfold AK
  cases e5:cN (qg g) 0 g.2.2.2.1 with
  |some p=>
   simp only
   rw[decide_eq_false (wQ e5),aJ,cond_true]
  |none=>
   simp only
   rw[decide_true,aB,cond_false]
   refine aV ((((0:Int),((0:Int),(0:Int))),()),(decide (g.2.2.2.2<0\/(g.2.1.length:Int)<=g.2.2.2.2),())) (λK=>?_) ?_
   ·by_cases q1:g.2.2.2.2<0
    ·rw[decide_eq_true q1,cond_true,decide_eq_true (.inl q1)]
    ·rw[decide_eq_false q1,cond_false]
     have:decide (g.2.2.2.2<0\/(g.2.1.length:Int)<=g.2.2.2.2)=decide ((g.2.1.length:Int)<=g.2.2.2.2):=by rw[decide_eq_decide];exact⟨λh=>h.resolve_left q1,.inr⟩
     rw[this]
   ·simp only
    unfold D2
    by_cases q:g.2.2.2.2<0\/(g.2.1.length:Int)<=g.2.2.2.2
    ·rw[decide_eq_true q,cond_true,if_pos q]
    ·rw[decide_eq_false q,cond_false,if_neg q]
 ·cases cN (nF g) 0 g.2.2.1 <;> rfl
theorem Ju{g:GrI}(ok:sS g):p13 N0 (g,())=some (((ie g).1,((ie g).2.1,((ie g).2.2,()))),()):=by
 unfold p13 ie
 simp only
 rw[ae (PI (le_max ok.r0) ok.r1)]
 simp only
 by_cases e1:(lJ g.1).2=0
 case neg=>rw[decide_eq_false e1,aJ,cond_true,if_pos e1]
 rw[decide_eq_true e1,aB,cond_false,if_neg (show ¬¬(lJ g.1).2=0 from λh=>h e1)]
 show _=gP (D4 g)
 unfold D4
 by_cases e2:300<g.2.1.length
 ·rw[decide_eq_true (show(300:Int)<((g.2.1.length:Nat):Int) by omega),cond_true,if_pos e2];rfl
 rw[decide_eq_false (show ¬(300:Int)<((g.2.1.length:Nat):Int) by omega),cond_false,if_neg e2]
 refine(rR g.2.1 (λj=>((),((j:Int),()))) (j6 g) (λe j=>gP (e,(2,(j:Int)))) (gP (D3 g)) (λj h k=>?_) (λk=>?_) N0 (ik ok.s0)).trans ?_
 ·simp only
  rw[decide_eq_true (show(j:Int)<((g.2.1.length:Nat):Int) by omega),cond_true,ae (PQ ok (ah h))]
  simp only
  by_cases e:j6 g j g.2.1[j]=0
  ·rw[decide_eq_true e,aB,cond_false,if_pos e,bo h (le_max ok.s0)]
  ·rw[decide_eq_false e,aJ,cond_true,if_neg e];rfl
 ·simp only
  rw[decide_eq_false (by omega),cond_false]
  unfold D3
  by_cases e4:200<g.2.2.1.length
  ·rw[decide_eq_true (show(200:Int)<((g.2.2.1.length:Nat):Int) by omega),cond_true,if_pos e4];rfl
  rw[decide_eq_false (show ¬(200:Int)<((g.2.2.1.length:Nat):Int) by omega),cond_false,if_neg e4]
  refine(rR g.2.2.1 (λj=>((),((j:Int),()))) (nF g) (λe j=>gP (e,(3,(j:Int)))) (gP (AK g)) (λj h k=>?_) (λk=>?_) N0 (ik ok.p0)).trans ?_
  ·simp only
   rw[decide_eq_true (show(j:Int)<((g.2.2.1.length:Nat):Int) by omega),cond_true,ae (PS ok (ah h))]
   simp only
   by_cases e:nF g j g.2.2.1[j]=0
   ·rw[decide_eq_true e,aB,cond_false,if_pos e,bo h (le_max ok.p0)]
   ·rw[decide_eq_false e,aJ,cond_true,if_neg e];rfl
  ·simp only
   rw[decide_eq_false (by omega),cond_false]
   unfold AK
   refine(rR g.2.2.2.1 (λj=>((),((j:Int),()))) (qg g) (λe j=>gP (e,(4,(j:Int)))) (gP (D2 g)) (λj h k=>?_) (λk=>?_) N0 (ik ok.l0)).trans ?_
   ·simp only
    rw[decide_eq_true (show(j:Int)<((g.2.2.2.1.length:Nat):Int) by omega),cond_true,ae (PV ok (ah h))]
    simp only
    by_cases e:qg g j g.2.2.2.1[j]=0
    ·rw[decide_eq_true e,aB,cond_false,if_pos e,bo h (le_max ok.l0)]
    ·rw[decide_eq_false e,aJ,cond_true,if_neg e];rfl
   ·simp only
    rw[decide_eq_false (by omega),cond_false]
    refine aV ((),(decide (g.2.2.2.2<0\/(g.2.1.length:Int)<=g.2.2.2.2),())) (λK=>?_) ?_
    ·by_cases q1:g.2.2.2.2<0
     ·rw[decide_eq_true q1,cond_true,decide_eq_true (.inl q1)]
     ·rw[decide_eq_false q1,cond_false]
      have:decide (g.2.2.2.2<0\/(g.2.1.length:Int)<=g.2.2.2.2)=decide ((g.2.1.length:Int)<=g.2.2.2.2):=by rw[decide_eq_decide];exact⟨λh=>h.resolve_left q1,.inr⟩
      rw[this]
    ·simp only
     unfold D2
     by_cases q:g.2.2.2.2<0\/(g.2.1.length:Int)<=g.2.2.2.2
     ·rw[decide_eq_true q,cond_true,if_pos q];rfl
     ·rw[decide_eq_false q,cond_false,if_neg q];rfl
   ·cases cN (qg g) 0 g.2.2.2.1 <;> rfl
  ·cases cN (nF g) 0 g.2.2.1 <;> rfl
 ·cases cN (j6 g) 0 g.2.1 <;> rfl
end
end Go.Proofs.YthalkfdkbalpmaaGreat.Rf
namespace Go.Proofs.YthalkfdkbalpmaaGreat.Rf.Rk
open Go Go.Proofs.YthalkfdkbalpmaaGreat.Rf
noncomputable section
abbrev Lvl:=Int×List Int
abbrev Prd:=Int×(List Int×(List (Bool×Int)×(Bool×(Int×List Int))))
abbrev Grm:=List (List Int×(Int×List Int))×(List (List Int)×(List Prd×(List Lvl×Int)))
structure GOk(g:Grm):Prop where
 ls:g.2.2.2.1.length<=maxLen
 lr:∀ l∈g.2.2.2.1,l.2.length<=maxLen
 ps:g.2.2.1.length<=maxLen
 pb:∀ p∈g.2.2.1,p.2.2.1.length<=maxLen
 rs:g.1.length<=maxLen
 so:g.2.1.length<=maxLen
def Co(r:List Int×(Int×List Int)):Bool:=decide (r.2.2.length<=40)&&decide (r.1.length<=100)
def wR(l:List (List Int×(Int×List Int))):Bool:=decide (l.length<=20)&&l.all Co
theorem PW(l:List (List Int×(Int×List Int)))(hl:l.length<=maxLen):p30 N0 (l,())=some ((wR l,()),()):=by
 unfold p30 wR
 simp only[aL,cm,decide_eq_true_eq]
 by_cases h1:(20:Int)<(l.length:Int)
 ·have:¬l.length<=20:=by omega
  simp[h1,this]
 ·have h2:l.length<=20:=by omega
  simp only[h1,h2,if_false,decide_true,bF]
  refine bT (λj=>((),((j:Int),()))) (λj=>some (((l.drop j).all Co,()),())) l.length (λj hj k hk=>?_) N0 0 (aH _) (by have:=jY hl;omega)
  rcases ap j l.length with hi|hi
  ·have hk:=hk hi
   have hc:(j:Int)<(l.length:Int):=by omega
   simp only[hc,if_true,aa,aX,ah hi,bo hi hl,db hi,oc,hk]
   generalize l[j]=r
   unfold Co
   by_cases h3:(40:Int)<(r.2.2.length:Int)
   ·have:¬r.2.2.length<=40:=by omega
    simp[h3,this]
   ·have h4:r.2.2.length<=40:=by omega
    by_cases h5:(100:Int)<(r.1.length:Int)
    ·have:¬r.1.length<=100:=by omega
     simp[h3,h5,this]
    ·have:r.1.length<=100:=by omega
     simp[h3,h4,h5,this]
  ·have hc:¬(j:Int)<(l.length:Int):=by omega
   simp[hc,fk hi]
def uL(p:Prd):Bool:=decide (p.2.2.1.length<=20)&&(decide (p.2.2.2.2.2.length<=20)&&decide (p.2.1.length<=100))
def few(g:Grm):Bool:=wR g.1&&(decide (g.2.1.length<=20)&&(decide (g.2.2.1.length<=40)&&(decide (g.2.2.2.1.length<=20)&&(g.2.1.all (λs=>decide (s.length<=100))&&(g.2.2.1.all uL&&g.2.2.2.1.all (λl=>decide (l.2.length<=20)))))))
theorem RN(g:Grm)(hg:GOk g):p8 N0 (g,())=some ((few g,()),()):=by
 unfold p8 few
 simp only[aL,PW g.1 hg.rs,aC,cm,decide_eq_true_eq]
 have e20:∀ a:Nat,((20:Int)<(a:Int))↔¬a<=20:=λa=>by omega
 have e40:∀ a:Nat,((40:Int)<(a:Int))↔¬a<=40:=λa=>by omega
 have UO:∀ a:Nat,((100:Int)<(a:Int))↔¬a<=100:=λa=>by omega
 simp only[e20,e40,UO]
 cases h1:wR g.1
 ·simp
 by_cases h2:g.2.1.length<=20
 case neg=>simp[h2]
 by_cases h3:g.2.2.1.length<=40
 case neg=>simp[h2,h3]
 by_cases h4:g.2.2.2.1.length<=20
 case neg=>simp[h2,h3,h4]
 simp only[h2,h3,h4,aB,not_true,av,if_false,decide_false,decide_true,bF]
 refine(fJ (after:=?a1) g.2.1 (λs=>decide (s.length<=100)) (some ((false,()),())) (λj=>((),(j:Int),())) ?s1 ?f1 N0 ?n1).trans ?_
 case f1=>intro k;simp only[od,if_false];exact rfl
 case n1=>have:=jY hg.so;omega
 case s1=>
  intro j hj k
  have hc:(j:Int)<(g.2.1.length:Int):=by omega
  simp only[hc,if_true,aa,aX,ah hj,bo hj hg.so,e20,decide_eq_true_eq]
  split <;> simp_all
 split
 case isFalse h=>simp[h]
 case isTrue h5=>
 simp only[h5,bF]
 refine(fJ (after:=?a2) g.2.2.1 uL (some ((false,()),())) (λj=>((),(j:Int),())) ?s2 ?f2 N0 ?n2).trans ?_
 case f2=>intro k;simp only[od,if_false];exact rfl
 case n2=>have:=jY hg.ps;omega
 case s2=>
  intro j hj k
  have hc:(j:Int)<(g.2.2.1.length:Int):=by omega
  simp only[hc,if_true,aa,aX,ah hj,bo hj hg.ps,e20,uL]
  generalize g.2.2.1[j]=p
  by_cases a1:p.2.2.1.length<=20 <;> by_cases a2:p.2.2.2.2.2.length<=20 <;> by_cases a3:p.2.1.length<=100 <;> simp[a1,a2,a3]
 split
 case isFalse h=>simp[h]
 case isTrue h6=>
 simp only[h6,bF]
 refine(fJ (after:=some ((true,()),())) g.2.2.2.1 (λl=>decide (l.2.length<=20)) (some ((false,()),())) (λj=>((),(j:Int),())) ?s3 ?f3 N0 ?n3).trans ?_
 case f3=>intro k;simp only[od,if_false]
 case n3=>have:=jY hg.ls;omega
 case s3=>
  intro j hj k
  have hc:(j:Int)<(g.2.2.2.1.length:Int):=by omega
  simp only[hc,if_true,aa,aX,ah hj,bo hj hg.ls,e20,decide_eq_true_eq]
  split <;> simp_all
 split
 case isFalse h=>simp[h]
 case isTrue h7=>simp[h7]
end
end Go.Proofs.YthalkfdkbalpmaaGreat.Rf.Rk
namespace Go.Proofs.YthalkfdkbalpmaaGreat.Rf
open Go
noncomputable section
def exA:GrI:=([([65],((0:Int),[97]))],([[83]],([((0:Int),([80],([(false,0)],(false,(-1,[])))))],([],(0:Int)))))
theorem RO:p13 N0 (exA,())=some ((0,(0,(0,()))),()):=by kernel_rfl
theorem Jv:sS exA:=by
 have hb:∀ l:List Int,(l.all λc=>decide (0<=c/\c<=255))=true->Bytes l:=λl h c hc=>by
  have:=cO.1 h c hc
  simpa using this
 refine⟨by decide,λr hr=>?_,by decide,λs hs=>?_,by decide,λp hp=>?_,λp hp=>?_,λp hp=>?_,by decide,λl hl=>?_⟩
 ·simp[exA]at hr
  subst hr
  exact⟨hb _ (by decide),by decide,hb _ (by decide),by decide⟩
 ·simp[exA]at hs
  subst hs
  exact⟨hb _ (by decide),by decide⟩
 ·simp[exA]at hp
  subst hp
  exact⟨hb _ (by decide),by decide⟩
 ·simp[exA]at hp;subst hp;decide
 ·simp[exA]at hp;subst hp;decide
 ·simp[exA]at hl
theorem RP:∃ a b,p31 N0 (exA,())=some (((0,(a,b)),()),()):=by
 have h:=Jt Jv (λr hr=>by simp[exA]at hr;subst hr;decide)
 have h2:=Ju Jv
 rw[RO]at h2
 have h3:=(Prod.mk.inj (Prod.mk.inj (dy h2)).1).1
 refine⟨(ie exA).2.1,(ie exA).2.2,h.trans ?_⟩
 rw[show ie exA=((ie exA).1,((ie exA).2.1,(ie exA).2.2))from rfl,<-h3]
set_option maxRecDepth 100000 in
theorem RQ:(p18 N0 (exA,())).map (λr=>(r.1.2.1,r.1.1.1.length))=some (0,3):=by
 obtain⟨a,b,h⟩:=RP
 unfold p18
 simp only
 rw[ae h]
 kernel_rfl
theorem Jw:p16 N0 ()=some ((true,()),()):=by
 obtain⟨r,h1,h2⟩:=nQ.1 RQ
 obtain⟨⟨s,e,u⟩,v⟩:=r
 unfold p16
 show aj (p18 N0 (exA,())) _=_
 rw[ae h1]
 simp only[Prod.mk.injEq]at h2
 obtain⟨rfl,h3⟩:=h2
 have h19:p19 N0 (s,())=some ((((s.1.length:Nat):Int),()),()):=rfl
 simp only
 refine aV ((),(true,())) (λK=>?_) rfl
 simp only[decide_true,cond_true]
 rw[ae h19]
 simp only
 rw[h3]
 rfl
end
end Go.Proofs.YthalkfdkbalpmaaGreat.Rf
namespace Go.Proofs.YthalkfdkbalpmaaGreat.Rf.Rk
open Go Go.Proofs.YthalkfdkbalpmaaGreat.Rf
noncomputable section
abbrev ItS:=Int×(Int×Int)
def ltK(x y:ItS):Prop:=x.1<y.1\/x.1=y.1/\x.2.1<y.2.1
def kH(x:ItS):Prop:=0<=x.2.2/\x.2.2<18446744073709551616
theorem pg{x y z:ItS}(h1:ltK x y)(h2:ltK y z):ltK x z:=by unfold ltK at *;omega
theorem qh{x:ItS}(h:ltK x x):False:=by unfold ltK at h;omega
theorem Jx(x y:ItS):ltK x y\/(x.1=y.1/\x.2.1=y.2.1)\/ltK y x:=by unfold ltK;omega
def At(l:List ItS)(p d:Int):Option Nat->Prop
 |none=>∃ x∈l,x.1=p/\x.2.1=d
 |some b=>∃ x∈l,x.1=p/\x.2.1=d/\x.2.2.toNat.testBit b=true
theorem At.there{l:List ItS}{p d:Int}{o:Option Nat}(h:At l p d o):At l p d none:=by
 cases o with
 |none=>exact h
 |some b=>obtain⟨x,h1,h2,h3,_⟩:=h;exact⟨x,h1,h2,h3⟩
theorem jj{l m:List ItS}{p d:Int}{o:Option Nat}:At (l++m) p d o↔At l p d o\/At m p d o:=by
 cases o with
 |none=>
  constructor
  ·rintro⟨x,h1,h2⟩
   rcases ar.1 h1 with h|h
   ·exact .inl ⟨x,h,h2⟩
   ·exact .inr ⟨x,h,h2⟩
  ·rintro(⟨x,h1,h2⟩|⟨x,h1,h2⟩)
   ·exact⟨x,ar.2 (.inl h1),h2⟩
   ·exact⟨x,ar.2 (.inr h1),h2⟩
 |some b=>
  constructor
  ·rintro⟨x,h1,h2⟩
   rcases ar.1 h1 with h|h
   ·exact .inl ⟨x,h,h2⟩
   ·exact .inr ⟨x,h,h2⟩
  ·rintro(⟨x,h1,h2⟩|⟨x,h1,h2⟩)
   ·exact⟨x,ar.2 (.inl h1),h2⟩
   ·exact⟨x,ar.2 (.inr h1),h2⟩
theorem Jy{p d:Int}{o:Option Nat}:¬At [] p d o:=by
 cases o with
 |none=>rintro⟨x,h,_⟩;cases h
 |some b=>rintro⟨x,h,_⟩;cases h
structure Can(A:Int->Int->Option Nat->Prop)(l:List ItS):Prop where
 st:l.Pairwise ltK
 bd:∀ x∈l,kH x
 at':∀ p d o,At l p d o↔A p d o
theorem pj{l:List ItS}(h:l.Pairwise ltK):∀ x∈l,∀ y∈l,x.1=y.1->x.2.1=y.2.1->x=y:=by
 induction l with
 |nil=>intro x hx;cases hx
 |cons a l ih=>
  obtain⟨h1,h2⟩:=dH.1 h
  intro x hx y hy e1 e2
  rcases aA.1 hx with k1|k1 <;> rcases aA.1 hy with k2|k2
  ·rw[k1,k2]
  ·have:=h1 y k2;unfold ltK at this;subst k1;omega
  ·have:=h1 x k1;unfold ltK at this;subst k2;omega
  ·exact ih h2 x k1 y k2 e1 e2
theorem uM:∀ {l m:List ItS},l.Pairwise ltK->m.Pairwise ltK->(∀ x,x∈l↔x∈m)->l=m
 |[],[],_,_,_=>rfl
 |[],b::m,_,_,h=>by have:=(h b).2 bE;cases this
 |a::l,[],_,_,h=>by have:=(h a).1 bE;cases this
 |a::l,b::m,h1,h2,h=>by
  obtain⟨p1,p2⟩:=dH.1 h1
  obtain⟨q1,q2⟩:=dH.1 h2
  have e:a=b:=by
   rcases aA.1 ((h a).1 bE)with e|ha
   ·exact e
   rcases aA.1 ((h b).2 bE)with e|hb
   ·exact e.symm
   exact(qh (pg (p1 b hb) (q1 a ha))).elim
  subst e
  have:=uM p2 q2 (λx=>by
   constructor
   ·intro hx
    rcases aA.1 ((h x).1 (bK _ hx))with rfl|hm
    ·exact(qh (p1 x hx)).elim
    ·exact hm
   ·intro hx
    rcases aA.1 ((h x).2 (bK _ hx))with rfl|hm
    ·exact(qh (q1 x hx)).elim
    ·exact hm)
  rw[this]
theorem Can.Cp{A:Int->Int->Option Nat->Prop}{l m:List ItS}(h:Can A l)(k:Can A m):l=m:=by
 have half:∀ {l m:List ItS},Can A l->Can A m->∀ x∈l,x∈m:=by
  intro l m h k x hx
  obtain⟨y,hy,e1,e2⟩:=(k.at' x.1 x.2.1 none).2 ((h.at' _ _ _).1 ⟨x,hx,rfl,rfl⟩)
  have U3:x.2.2.toNat=y.2.2.toNat:=by
   refine gG λb=>?_
   rw[cd]
   constructor
   ·intro hb
    obtain⟨z,hz,f1,f2,f3⟩:=(k.at' x.1 x.2.1 (some b)).2 ((h.at' _ _ _).1 ⟨x,hx,rfl,rfl,hb⟩)
    rw[<-pj k.st z hz y hy (by omega) (by omega)];exact f3
   ·intro hb
    obtain⟨z,hz,f1,f2,f3⟩:=(h.at' x.1 x.2.1 (some b)).2 ((k.at' _ _ _).1 ⟨y,hy,e1,e2,hb⟩)
    rw[<-pj h.st z hz x hx (by omega) (by omega)];exact f3
  have b1:=h.bd x hx
  have b2:=k.bd y hy
  unfold kH at b1 b2
  have:x=y:=by
   obtain⟨a,b,c⟩:=x
   obtain⟨a',b',c'⟩:=y
   simp only at *
   rw[e1,e2,show c=c' by omega]
  rw[this];exact hy
 exact uM h.st k.st λx=>⟨half h k x,half k h x⟩
theorem Can.congr{A B:Int->Int->Option Nat->Prop}{l:List ItS}(h:Can A l)(e:∀ p d o,A p d o↔B p d o):Can B l:=⟨h.st,h.bd,λp d o=>(h.at' p d o).trans (e p d o)⟩
def orI(a b:Int):Int:=((a.toNat|||b.toNat:Nat):Int)
def U64(a:Int):Prop:=0<=a/\a<18446744073709551616
theorem mH{a b:Int}(ha:U64 a)(hb:U64 b):U64 (orI a b):=by
 unfold orI U64 at *
 have:=qK (x:=a.toNat) (y:=b.toNat) (n:=64) (by omega) (by omega)
 have e:(2:Nat) ^ 64=18446744073709551616:=by decide
 omega
theorem dO(a b:Int)(n:Nat):(orI a b).toNat.testBit n=(a.toNat.testBit n||b.toNat.testBit n):=by
 unfold orI
 rw[aa,kU]
theorem uN{a:Int}(h:0<=a):orI a 0=a:=by unfold orI;simp;omega
theorem Jz{a:Int}(h:0<=a):orI 0 a=a:=by unfold orI;simp;omega
theorem AL{a b:Int}(ha:U64 a)(hb:U64 b)(h:∀ n,n<64->a.toNat.testBit n=b.toNat.testBit n):a=b:=by
 unfold U64 at *
 have e:(2:Nat) ^ 64=18446744073709551616:=by decide
 have:a.toNat=b.toNat:=by
  refine gG λn=>?_
  rcases ap n 64 with h1|h1
  ·exact h n h1
  ·have hp:18446744073709551616<=2 ^ n:=by rw[<-e];exact iu (by omega) h1
   rw[jy (by omega),jy (by omega)]
 omega
theorem NR{a:Int}(ha:U64 a){n:Nat}(h:a.toNat.testBit n=true):n<64:=by
 unfold U64 at ha
 rcases ap n 64 with h1|h1
 ·exact h1
 ·have e:(2:Nat) ^ 64=18446744073709551616:=by decide
  have hp:18446744073709551616<=2 ^ n:=by rw[<-e];exact iu (by omega) h1
  rw[jy (by omega)]at h
  cases h
theorem D5{A:Int->Int->Option Nat->Prop}{X Y:List ItS}{x:ItS}(h:Can A (X++Y))(hx:kH x)(h1:∀ a∈X,ltK a x)(h2:∀ b∈Y,ltK x b):
 Can (λp d o=>A p d o\/At [x] p d o) (X++x::Y):=by
 refine⟨?_,?_,λp d o=>?_⟩
 ·have:=gH.1 h.st
  refine gH.2 ⟨this.1,dH.2 ⟨h2,this.2.1⟩,λa ha b hb=>?_⟩
  rcases aA.1 hb with rfl|hb
  ·exact h1 a ha
  ·exact this.2.2 a ha b hb
 ·intro y hy
  rcases ar.1 hy with hy|hy
  ·exact h.bd y (ar.2 (.inl hy))
  ·rcases aA.1 hy with rfl|hy
   ·exact hx
   ·exact h.bd y (ar.2 (.inr hy))
 ·rw[<-h.at',show X++x::Y=X++([x]++Y)from rfl,jj,jj,jj]
  constructor
  ·rintro(h|h|h)
   ·exact .inl (.inl h)
   ·exact .inr h
   ·exact .inl (.inr h)
  ·rintro((h|h)|h)
   ·exact .inl h
   ·exact .inr (.inr h)
   ·exact .inr (.inl h)
theorem PX{A:Int->Int->Option Nat->Prop}{X Y:List ItS}{x y:ItS}(h:Can A (X++y::Y))(hx:kH x)(e1:y.1=x.1)(e2:y.2.1=x.2.1):
 Can (λp d o=>A p d o\/At [x] p d o) (X++(y.1,(y.2.1,orI y.2.2 x.2.2))::Y):=by
 have hy:=h.bd y (by simp)
 have hs:=gH.1 h.st
 have hs2:=dH.1 hs.2.1
 refine⟨?_,?_,λp d o=>?_⟩
 ·refine gH.2 ⟨hs.1,dH.2 ⟨λb hb=>hs2.1 b hb,hs2.2⟩,λa ha b hb=>?_⟩
  rcases aA.1 hb with rfl|hb
  ·exact hs.2.2 a ha y bE
  ·exact hs.2.2 a ha b (bK _ hb)
 ·intro z hz
  rcases ar.1 hz with hz|hz
  ·exact h.bd z (ar.2 (.inl hz))
  ·rcases aA.1 hz with rfl|hz
   ·exact mH hy hx
   ·exact h.bd z (by simp[hz])
 ·have key:At [(y.1,(y.2.1,orI y.2.2 x.2.2))] p d o↔At [y] p d o\/At [x] p d o:=by
   cases o with
   |none=>simp[At,e1,e2]
   |some b=>
    simp only[At,aS,exists_eq_left,dO,aG,e1,e2]
    constructor
    ·rintro⟨h1,h2,h3|h3⟩
     ·exact .inl ⟨h1,h2,h3⟩
     ·exact .inr ⟨h1,h2,h3⟩
    ·rintro(⟨h1,h2,h3⟩|⟨h1,h2,h3⟩)
     ·exact⟨h1,h2,.inl h3⟩
     ·exact⟨h1,h2,.inr h3⟩
  rw[<-h.at',show X++(y.1,(y.2.1,orI y.2.2 x.2.2))::Y=X++([(y.1,(y.2.1,orI y.2.2 x.2.2))]++Y)from rfl,show X++y::Y=X++([y]++Y)from rfl,jj,jj,jj,jj,key]
  constructor
  ·rintro(h|(h|h)|h)
   ·exact .inl (.inl h)
   ·exact .inl (.inr (.inl h))
   ·exact .inr h
   ·exact .inl (.inr (.inr h))
  ·rintro((h|h|h)|h)
   ·exact .inl h
   ·exact .inr (.inl (.inl h))
   ·exact .inr (.inr h)
   ·exact .inr (.inl (.inr h))
theorem Nb:Can (λ_ _ _=>False) []:=⟨.nil,(λx h=>by cases h),λp d o=>⟨λh=>Jy h,λh=>h.elim⟩⟩
end
noncomputable section
abbrev Ato:=Int->Int->Option Nat->Prop
section
variable (st:Int->Int->Int->Prop) (fs:Int->Int->Nat->Prop) (nl:Int->Int->Prop)
def Stp(A:Ato):Ato:=λq d' o=>d'=0/\match o with
 |none=>∃ p d,A p d none/\st p d q
 |some b=>∃ p d,st p d q/\(A p d none/\fs p d b\/A p d (some b)/\nl p d)
inductive Cl(B:Ato):Int->Int->Option Nat->Prop
 |base {p d o}:B p d o->Cl B p d o
 |there {p d q}:Cl B p d none->st p d q->Cl B q 0 none
 |first {p d q b}:Cl B p d none->st p d q->fs p d b->Cl B q 0 (some b)
 |look {p d q b}:Cl B p d (some b)->st p d q->nl p d->Cl B q 0 (some b)
variable {st fs nl}
theorem Cl.stp{B:Ato}{p d:Int}{o:Option Nat}(h:Stp st fs nl (Cl st fs nl B) p d o):Cl st fs nl B p d o:=by
 obtain⟨rfl,h⟩:=h
 cases o with
 |none=>obtain⟨p',d',h1,h2⟩:=h;exact .there h1 h2
 |some b=>
  obtain⟨p',d',h1,h2|h2⟩:=h
  ·exact .first h2.1 h1 h2.2
  ·exact .look h2.1 h1 h2.2
theorem Cl.least{B A:Ato}(hB:∀ p d o,B p d o->A p d o)(hA:∀ p d o,Stp st fs nl A p d o->A p d o){p d:Int}{o:Option Nat}(h:Cl st fs nl B p d o):A p d o:=by
 induction h with
 |base h=>exact hB _ _ _ h
 |there _ h2 ih=>exact hA _ _ _ ⟨rfl,_,_,ih,h2⟩
 |first _ h2 h3 ih=>exact hA _ _ _ ⟨rfl,_,_,h2,.inl ⟨ih,h3⟩⟩
 |look _ h2 h3 ih=>exact hA _ _ _ ⟨rfl,_,_,h2,.inr ⟨ih,h3⟩⟩
theorem Stp.mono{A A':Ato}(h:∀ p d o,A p d o->A' p d o){p d:Int}{o:Option Nat}(k:Stp st fs nl A p d o):Stp st fs nl A' p d o:=by
 obtain⟨rfl,k⟩:=k
 refine⟨rfl,?_⟩
 cases o with
 |none=>obtain⟨p',d',h1,h2⟩:=k;exact⟨p',d',h _ _ _ h1,h2⟩
 |some b=>
  obtain⟨p',d',h1,h2|h2⟩:=k
  ·exact⟨p',d',h1,.inl ⟨h _ _ _ h2.1,h2.2⟩⟩
  ·exact⟨p',d',h1,.inr ⟨h _ _ _ h2.1,h2.2⟩⟩
theorem Cl.mono{B B':Ato}(h:∀ p d o,B p d o->B' p d o){p d:Int}{o:Option Nat}(k:Cl st fs nl B p d o):Cl st fs nl B' p d o:=
 Cl.least (λp d o hb=>.base (h p d o hb)) (λp d o hs=>Cl.stp hs) k
end
def ig{α:Type}(U:List α)(P:α->Prop):Nat:=by
 classical exact U.countP λu=>!decide (P u)
theorem qi{α:Type}{U:List α}{P Q:α->Prop}(h:∀ u∈U,P u->Q u):ig U Q<=ig U P:=by
 classical
 unfold ig
 refine List.countP_mono_left λu hu hq=>?_
 simp only[bu,decide_eq_false_iff_not]at *
 exact λhp=>hq (h u hu hp)
theorem jd{α:Type}(U:List α)(P:α->Prop):ig U P<=U.length:=by
 unfold ig
 exact List.countP_le_length
theorem oH{α:Type}{U:List α}{P Q:α->Prop}(h:∀ u∈U,P u->Q u){a:α}(ha:a∈U)(hp:¬P a)(hq:Q a):ig U Q<ig U P:=by
 classical
 induction U with
 |nil=>cases ha
 |cons b U ih=>
  have hle:ig U Q<=ig U P:=qi λu hu=>h u (bK _ hu)
  have e:∀ R:α->Prop,ig (b::U) R=ig U R+(if R b then 0 else 1):=λR=>by
   unfold ig
   rw[qM]
   by_cases hr:R b <;> simp[hr]
  rw[e,e]
  rcases aA.1 ha with rfl|ha
  ·rw[if_pos hq,if_neg hp];omega
  ·have:=ih (λu hu=>h u (bK _ hu)) ha
   by_cases hb:P b
   ·rw[if_pos hb,if_pos (h b bE hb)];omega
   ·rw[if_neg hb]
    split <;> omega
structure InU(k:Nat)(p d:Int)(o:Option Nat):Prop where
 p0:0<=p
 p1:p<=k
 d0:0<=d
 d1:d<=20
 b:∀ b,o=some b->b<64
def vF(k:Nat):List (Nat×Nat×Nat):=(List.range (k+1)).flatMap λp=>(List.range 21).flatMap λd=>(List.range 65).map λb=>(p,d,b)
def ofB:Nat->Option Nat
 |0=>none
 |b+1=>some b
def onU(A:Ato)(u:Nat×Nat×Nat):Prop:=A u.1 u.2.1 (ofB u.2.2)
theorem JA{k:Nat}{p d:Int}{o:Option Nat}(h:InU k p d o):∃ u∈vF k,(u.1:Int)=p/\(u.2.1:Int)=d/\ofB u.2.2=o:=by
 have h1:=h.p0
 have h2:=h.p1
 have h3:=h.d0
 have h4:=h.d1
 refine⟨(p.toNat,d.toNat,match o with|none=>0|some b=>b+1),?_,by show(p.toNat:Int)=p;omega,by show(d.toNat:Int)=d;omega,by cases o <;> rfl⟩
 unfold vF
 refine dU.2 ⟨p.toNat,cD.2 (by omega),dU.2 ⟨d.toNat,cD.2 (by omega),gL.2 ⟨_,cD.2 ?_,rfl⟩⟩⟩
 cases o with
 |none=>simp
 |some b=>have:=h.b b rfl;show b+1<65;omega
theorem JB(k:Nat):(vF k).length=(k+1)*1365:=by
 unfold vF
 simp[List.length_flatMap,nZ]
theorem JC{k:Nat}{A A':Ato}{l l':List ItS}(h:Can A l)(h':Can A' l')(hs:∀ p d o,A p d o->A' p d o)(hU:∀ p d o,A' p d o->InU k p d o)(hne:l≠l'):ig (vF k) (onU A')<ig (vF k) (onU A):=by
 have:∃ p d o,A' p d o/\¬A p d o:=by
  apply jw
  intro hn
  refine hne ((h.congr λp d o=>⟨hs p d o,λha=>?_⟩).Cp h')
  apply jw
  intro hna
  exact hn ⟨p,d,o,ha,hna⟩
 obtain⟨p,d,o,h1,h2⟩:=this
 obtain⟨u,hu,rfl,rfl,rfl⟩:=JA (hU _ _ _ h1)
 exact oH (λv _ hv=>hs _ _ _ hv) hu h2 h1
theorem Nc{k:Nat}{A:Ato}{l:List ItS}(h:Can A l)(hU:∀ p d o,A p d o->InU k p d o):l.length<=(k+1)*21:=by
 have hp:∀ x∈l,0<=x.1/\x.1<=k/\0<=x.2.1/\x.2.1<=20:=λx hx=>by
  have:=hU _ _ _ ((h.at' x.1 x.2.1 none).1 ⟨x,hx,rfl,rfl⟩)
  exact⟨this.p0,this.p1,this.d0,this.d1⟩
 have key:∀ (l:List ItS),l.Pairwise ltK->(∀ x∈l,0<=x.1/\x.1<=k/\0<=x.2.1/\x.2.1<=20)->∀ n:Nat,(∀ x∈l,(n:Int)<=x.1*21+x.2.1)->l.length+n<=(k+1)*21\/l=[]:=by
  intro l
  induction l with
  |nil=>intro _ _ n _;exact .inr rfl
  |cons x l ih=>
   intro hs hp n hn
   obtain⟨s1,s2⟩:=dH.1 hs
   have hx:=hp x bE
   have hnx:=hn x bE
   refine .inl ?_
   rcases ih s2 (λy hy=>hp y (bK _ hy)) (n+1) (λy hy=>by
    have h1:=s1 y hy
    have h2:=hp y (bK _ hy)
    unfold ltK at h1
    omega)with h|h
   ·rw[aO];omega
   ·subst h
    show 1+n<=_
    have:x.1*21<=(k:Int)*21:=Int.mul_le_mul_of_nonneg_right hx.2.1 (by omega)
    omega
 rcases key l h.st hp 0 (λx hx=>by have:=hp x hx;omega)with h|h
 ·omega
 ·rw[h];exact aH _
end
noncomputable section
abbrev SyS:=Bool×Int
abbrev PrS:=Int×(List Int×(List SyS×(Bool×(Int×List Int))))
def inR(n:Nat)(s:Int):Bool:=decide (0<=s)&&decide (s<n)
theorem iX{n:Nat}{s:Int}:inR n s=true↔0<=s/\s<n:=by unfold inR;simp
inductive Emp(ps:List PrS)(n:Nat):Int->Prop
 |mk (p:PrS):p∈ps->inR n p.1=true->(∀ y∈p.2.2.1,y.1=true)->(∀ y∈p.2.2.1,Emp ps n y.2)->Emp ps n p.1
inductive Fst(ps:List PrS)(n:Nat):Int->Nat->Prop
 |tok (p:PrS) (pre:List SyS) (y:SyS) (post:List SyS) (b:Nat):p∈ps->inR n p.1=true->p.2.2.1=pre++y::post->(∀ z∈pre,z.1=true/\Emp ps n z.2)->y.1=false->y.2=(b:Int)->b<=63->Fst ps n p.1 b
 |sort (p:PrS) (pre:List SyS) (y:SyS) (post:List SyS) (b:Nat):p∈ps->inR n p.1=true->p.2.2.1=pre++y::post->(∀ z∈pre,z.1=true/\Emp ps n z.2)->y.1=true->Fst ps n y.2 b->Fst ps n p.1 b
theorem Emp.inR{ps:List PrS}{n:Nat}{s:Int}(h:Emp ps n s):inR n s=true:=by cases h;assumption
theorem Fst.inR{ps:List PrS}{n:Nat}{s:Int}{b:Nat}(h:Fst ps n s b):Rk.inR n s=true:=by cases h <;> assumption
theorem Fst.lt{ps:List PrS}{n:Nat}{s:Int}{b:Nat}(h:Fst ps n s b):b<64:=by
 induction h with
 |tok=>omega
 |sort=>assumption
def vG(k:Int):Int:=if 0<=k/\k<=63 then((2 ^ k.toNat:Nat):Int)else 0
theorem uO(k:Int):U64 (vG k):=by
 unfold vG U64
 split
 ·have h1:(2:Nat) ^ k.toNat<=2 ^ 63:=iu (by omega) (by omega)
  have e:(2:Nat) ^ 63=9223372036854775808:=by decide
  generalize (2:Nat) ^ k.toNat=z at *
  omega
 ·omega
theorem uP(k:Int)(b:Nat):(vG k).toNat.testBit b=true↔k=(b:Int)/\b<=63:=by
 unfold vG
 split
 ·rw[aa,nT]
  simp only[decide_eq_true_eq]
  omega
 ·simp
  omega
def eY(n:Nat)(f:Nat->Bool)(F:Nat->Int):List SyS->Int×Bool
 |[]=>(0,true)
 |y::r=>if y.1=false then(vG y.2,false)else if inR n y.2=true then(if f y.2.toNat=true then(orI (F y.2.toNat) (eY n f F r).1,(eY n f F r).2)else(F y.2.toNat,false))else(0,false)
def emR(n:Nat)(f:Nat->Bool)(b:List SyS):Bool:=b.all λy=>y.1&&inR n y.2&&f y.2.toNat
variable {n:Nat} {f:Nat->Bool} {F:Nat->Int}
theorem iN(h:∀ i,U64 (F i)):∀ b,U64 (eY n f F b).1
 |[]=>⟨by show(0:Int)<=0;omega,by show(0:Int)<_;omega⟩
 |y::r=>by
  unfold eY
  split
  ·exact uO _
  ·split
   ·split
    ·exact mH (h _) (iN h r)
    ·exact h _
   ·exact⟨by show(0:Int)<=0;omega,by show(0:Int)<_;omega⟩
theorem yd:∀ b,(eY n f F b).2=emR n f b
 |[]=>rfl
 |y::r=>by
  unfold eY emR
  rw[oc]
  cases hy:y.1
  ·simp
  ·cases hr:inR n y.2
   ·simp
   ·cases hf:f y.2.toNat
    ·simp
    ·simp[yd r,emR]
theorem D6{b:List SyS}:emR n f b=true↔∀ y∈b,y.1=true/\inR n y.2=true/\f y.2.toNat=true:=by
 unfold emR
 simp only[cO,ag,and_assoc]
def Beg(n:Nat)(f:Nat->Bool)(F:Nat->Int)(body:List SyS)(b:Nat):Prop:=
 ∃ pre y post,body=pre++y::post/\(∀ z∈pre,z.1=true/\inR n z.2=true/\f z.2.toNat=true)/\(y.1=false/\y.2=(b:Int)/\b<=63\/y.1=true/\inR n y.2=true/\(F y.2.toNat).toNat.testBit b=true)
theorem j7:∀ (body:List SyS) (b:Nat),(eY n f F body).1.toNat.testBit b=true↔Beg n f F body b
 |[],b=>by
  constructor
  ·intro h;simp[eY]at h
  ·rintro⟨pre,y,post,h,_⟩;simp at h
 |y::r,b=>by
  have ih:=j7 r b
  constructor
  ·intro h
   unfold eY at h
   split at h
   ·rename_i hy
    rw[uP]at h
    exact⟨[],y,r,rfl,(λz hz=>by cases hz),.inl ⟨hy,h⟩⟩
   ·rename_i hy
    have hy:y.1=true:=by simpa using hy
    split at h
    ·rename_i hr
     split at h
     ·rename_i hf
      rw[dO,aG]at h
      rcases h with h|h
      ·exact⟨[],y,r,rfl,(λz hz=>by cases hz),.inr ⟨hy,hr,h⟩⟩
      ·obtain⟨pre,x,post,rfl,h1,h2⟩:=ih.1 h
       refine⟨y::pre,x,post,rfl,λz hz=>?_,h2⟩
       rcases aA.1 hz with rfl|hz
       ·exact⟨hy,hr,hf⟩
       ·exact h1 z hz
     ·exact⟨[],y,r,rfl,(λz hz=>by cases hz),.inr ⟨hy,hr,h⟩⟩
    ·simp at h
  ·rintro⟨pre,x,post,he,h1,h2⟩
   cases pre with
   |nil=>
    simp only[bM,eP]at he
    obtain⟨rfl,rfl⟩:=he
    unfold eY
    rcases h2 with⟨hy,h2⟩|⟨hy,hr,h2⟩
    ·rw[if_pos hy,uP];exact h2
    ·rw[if_neg (by simp[hy]),if_pos hr]
     split
     ·rw[dO,h2,dV]
     ·exact h2
   |cons z pre=>
    simp only[dS,eP]at he
    obtain⟨rfl,rfl⟩:=he
    obtain⟨k1,k2,k3⟩:=h1 y bE
    unfold eY
    rw[if_neg (by simp[k1]),if_pos k2,if_pos k3,dO,ih.2 ⟨pre,x,post,rfl,λz hz=>h1 z (bK _ hz),h2⟩,fv]
def ye(n:Nat)(f:Nat->Bool)(F:Nat->Int)(b:List SyS)(look:Int):Int:=if(eY n f F b).2=true then orI (eY n f F b).1 look else(eY n f F b).1
theorem PY(h:∀ i,U64 (F i)){b:List SyS}{look:Int}(hl:U64 look):U64 (ye n f F b look):=by
 unfold ye
 split
 ·exact mH (iN h b) hl
 ·exact iN h b
theorem JD{b:List SyS}{look:Int}{t:Nat}:(ye n f F b look).toNat.testBit t=true↔Beg n f F b t\/emR n f b=true/\look.toNat.testBit t=true:=by
 unfold ye
 rw[yd]
 split
 ·rename_i h
  rw[dO,aG,j7]
  simp[h]
 ·rename_i h
  rw[j7]
  simp[h]
structure IsT(ps:List PrS)(n:Nat)(f:Nat->Bool)(F:Nat->Int):Prop where
 e:∀ i,i<n->(f i=true↔Emp ps n (i:Int))
 u:∀ i,U64 (F i)
 b:∀ i,i<n->∀ b,(F i).toNat.testBit b=true↔Fst ps n (i:Int) b
def inN(n:Nat)(F:Nat->Int):List Int:=(List.range n).map F
def bsS(n:Nat)(f:Nat->Bool):List Bool:=(List.range n).map f
theorem JF{ps:List PrS}{n:Nat}{f g:Nat->Bool}{F G:Nat->Int}(h:IsT ps n f F)(k:IsT ps n g G):bsS n f=bsS n g/\inN n F=inN n G:=by
 constructor
 ·refine kM λi hi=>?_
  have hi:=cD.1 hi
  rw[cd,h.e i hi,k.e i hi]
 ·refine kM λi hi=>?_
  have hi:=cD.1 hi
  refine AL (h.u i) (k.u i) λb _=>?_
  rw[cd,h.b i hi,k.b i hi]
structure Nd(ps:List PrS)(n:Nat)(f:Nat->Bool)(F:Nat->Int):Prop where
 e:∀ i,f i=true->Emp ps n (i:Int)
 u:∀ i,U64 (F i)
 b:∀ i b,(F i).toNat.testBit b=true->Fst ps n (i:Int) b
theorem je{n:Nat}{s:Int}(h:inR n s=true):((s.toNat:Nat):Int)=s:=by rw[iX]at h;omega
theorem yf{ps:List PrS}{p:PrS}(hp:p∈ps)(hr:inR n p.1=true)(he:∀ i,f i=true->Emp ps n (i:Int))(h:emR n f p.2.2.1=true):Emp ps n p.1:=by
 rw[D6]at h
 refine .mk p hp hr (λy hy=>(h y hy).1) λy hy=>?_
 have:=he _ (h y hy).2.2
 rwa [je (h y hy).2.1]at this
theorem AM{ps:List PrS}{p:PrS}(hp:p∈ps)(hr:inR n p.1=true)(he:∀ i,f i=true->Emp ps n (i:Int))(hb:∀ i b,(F i).toNat.testBit b=true->Fst ps n (i:Int) b){b:Nat}(h:Beg n f F p.2.2.1 b):Fst ps n p.1 b:=by
 obtain⟨pre,y,post,e,h1,h2⟩:=h
 have xh:∀ z∈pre,z.1=true/\Emp ps n z.2:=λz hz=>by
  have:=he _ (h1 z hz).2.2
  rw[je (h1 z hz).2.1]at this
  exact⟨(h1 z hz).1,this⟩
 rcases h2 with⟨k1,k2,k3⟩|⟨k1,k2,k3⟩
 ·exact .tok p pre y post b hp hr e xh k1 k2 k3
 ·have:=hb _ _ k3
  rw[je k2]at this
  exact .sort p pre y post b hp hr e xh k1 this
theorem JG{ps:List PrS}(hc:∀ p∈ps,inR n p.1=true->emR n f p.2.2.1=true->f p.1.toNat=true){s:Int}(h:Emp ps n s):f s.toNat=true:=by
 induction h with
 |mk p hp hr h1 h2 ih=>exact hc p hp hr (D6.2 λy hy=>⟨h1 y hy,(h2 y hy).inR,ih y hy⟩)
theorem PZ{ps:List PrS}(he:∀ s,Emp ps n s->f s.toNat=true)(hc:∀ p∈ps,inR n p.1=true->∀ b,Beg n f F p.2.2.1 b->(F p.1.toNat).toNat.testBit b=true){s:Int}{b:Nat}(h:Fst ps n s b):(F s.toNat).toNat.testBit b=true:=by
 induction h with
 |tok p pre y post b hp hr e h1 k1 k2 k3=>exact hc p hp hr b ⟨pre,y,post,e,λz hz=>⟨(h1 z hz).1,(h1 z hz).2.inR,he _ (h1 z hz).2⟩,.inl ⟨k1,k2,k3⟩⟩
 |sort p pre y post b hp hr e h1 k1 k2 ih=>exact hc p hp hr b ⟨pre,y,post,e,λz hz=>⟨(h1 z hz).1,(h1 z hz).2.inR,he _ (h1 z hz).2⟩,.inr ⟨k1,k2.inR,ih⟩⟩
theorem Nd.isT{ps:List PrS}(h:Nd ps n f F)(hE:∀ p∈ps,inR n p.1=true->emR n f p.2.2.1=true->f p.1.toNat=true)(hF:∀ p∈ps,inR n p.1=true->∀ b,Beg n f F p.2.2.1 b->(F p.1.toNat).toNat.testBit b=true):IsT ps n f F:=by
 have he:∀ s,Emp ps n s->f s.toNat=true:=λs hs=>JG hE hs
 exact⟨λi _=>⟨h.e i,λhs=>he _ hs⟩,h.u,λi _ b=>⟨h.b i b,λhs=>PZ he hF hs⟩⟩
end
end Go.Proofs.YthalkfdkbalpmaaGreat.Rf.Rk
