/- A part of a proof that a given statement (the one of this claim: the name of its theorem ends in _holds) is true of the program, with no condition ahead of it. Printed by wip/dev/pack2.py out of the texts in wip. -/
import Derived.Test.YthalkfdkbalpmaaGreatU4
set_option linter.unusedVariables false
set_option linter.unusedSimpArgs false
namespace Go.Proofs.YthalkfdkbalpmaaGreat.Rf
open Go
noncomputable section
theorem ew{A R:Type}{body:A->(A->Option R)->Option R}(I:Nat->A->Prop)(Q:Option R->Prop)
 (step:∀ m x,I m x->∀ k,(∀ m' y,m' < m->I m' y->Q (k y))->Q (body x k)):∀ n m x,m<n->I m x->Q (aE body n x):=by
 intro n
 induction n with
 |zero=>intro m x h;omega
 |succ n ih=>
  intro m x h hi
  rw[eJ]
  exact step m x hi _ (λm' y hm hi'=>ih m' y (by omega) hi')
def OkP(s:List Int)(d:Int)(B:Nat)(o:Option (Rx×Nat))(z:Option ((List Pc×(Bool×Unit))×((List Int×(Int×Int))×Unit))):Prop:=
 match o with
 |some (t,j)=>z=some ((t.post,(true,())),(kst s j d,()))
 |none=>∃ r k,z=some ((r,(false,())),(k,()))/\r.length<=B
def nH(s:List Int)(nt:Bool)(o:Option ((Nat->Bool)×Nat)):Option (Rx×Nat):=
 match o with
 |none=>none
 |some (l,j)=>if s.length<=j\/eu (if nt=true then λx=>!l x else l)=true then none else some (.set (ofB (if nt=true then λx=>!l x else l)),j+1)
theorem yl(s:List Int)(i:Nat):brS s i=nH s (fm s i 94) (brL s s.length.succ (if fm s i 94=true then i+1 else i) (λ_=>false)):=by
 unfold brS nH fm
 rfl
theorem MW{s:List Int}(hb:Bytes s)(hs:s.length<=maxLen){i:Nat}(hi:i<=s.length)(d:Int):OkP s d 1 (brS s i) (Mj N0 (kst s i d,())):=by
 rw[yl]
 unfold Mj
 simp only[aJ]
 rw[aa (oK s hs i d 94)]
 simp only
 generalize hnt:fm s i 94=nt
 have hi1:(if nt=true then i+1 else i)<=s.length:=by
  split
  ·rename_i h
   rw[<-hnt]at h
   unfold fm at h
   simp at h
   omega
  ·exact hi
 generalize (if nt=true then i+1 else i)=i1 at hi1
 have hz:([0,0,0,0]:List Int)=ofB (λ_=>false):=by
  rw[show([0,0,0,0]:List Int)=zS by rfl]
  exact(hC.2 (by unfold eu;rw[cR];intro x _;rfl)).symm
 generalize cu:brL s s.length.succ i1 (λ_=>false)=res
 refine ew (λm x=>∃ (i:Nat) (f:Nat->Bool) (cm:Nat),x=((kst s i d,(ofB f,())),())/\i<=s.length/\s.length-i<cm/\m=s.length-i/\brL s cm i f=res) (OkP s d 1 (nH s nt res)) ?_ N0 (s.length-i1) _ (by have:=j7 hs;omega) ⟨i1,_,s.length.succ,by rw[<-hz],hi1,by omega,rfl,cu⟩
 rintro m x ⟨i,f,cm,rfl,hi,hf,hm,hr⟩ k hk
 obtain⟨cm,rfl⟩:∃ q,cm=q+1:=⟨cm-1,by omega⟩
 simp only[brL]at hr
 rw[aa (qc s hs i d [93] (by simp[maxLen]))]
 simp only
 by_cases mn:s.length<=i\/ch s i=93
 ·-- the end
  rw[if_pos mn]at hr
  have hc:qb s i [93]=true:=by
   unfold qb
   rcases mn with h|h
   ·simp[h]
   ·simp[h]
  rw[hc]
  simp only[aB,cond_false]
  subst hr
  have dB:∀ g:Nat->Bool,OkP s d 1 (if s.length<=i\/eu g=true then none else some (.set (ofB g),i+1)) (aj (oY N0 (kst s i d,(93,()))) λv21=>bif v21.1.1 then aj (ta N0 (ofB g,())) λv22=>some (([((1:Int),ofB g)],(!v22.1.1,())),(v21.2.1,()))else some (([((1:Int),ofB g)],(false,())),(v21.2.1,()))):=by
   intro g
   rw[aa (oK s hs i d 93)]
   simp only
   rcases ap i s.length with h|h
   ·have h93:ch s i=93:=mn.resolve_left (by omega)
    have he:fm s i 93=true:=by unfold fm;simp[h,h93]
    rw[he]
    simp only[cond_true,if_true,D1,aC]
    cases hem:eu g
    ·have:¬(s.length<=i\/(false=true)):=by simp;omega
     rw[if_neg this]
     rfl
    ·rw[if_pos (.inr rfl)]
     exact⟨_,_,rfl,by simp⟩
   ·have he:fm s i 93=false:=by unfold fm;simp;omega
    rw[he,if_pos (.inl h)]
    exact⟨_,_,rfl,by simp⟩
  unfold nH
  cases nt
  ·exact dB f
  ·simp only[cond_true,MU,aC,if_true]
   exact dB λx=>!f x
 ·rw[if_neg mn]at hr
  have hlt:i<s.length:=by omega
  have hc:qb s i [93]=false:=by
   unfold qb
   have h1:¬s.length<=i:=by omega
   have h2:¬ch s i=93:=λh=>mn (.inr h)
   simp[h1,h2]
  rw[hc]
  simp only[aI,cond_true]
  rw[aa (qc s hs i d [94,45,47,34] (by simp[maxLen]))]
  simp only
  have hc2:qb s i [94,45,47,34]=decide (ch s i∈([94,45,47,34]:List Int)):=by
   unfold qb
   have h1:¬s.length<=i:=by omega
   rw[decide_eq_false h1,cT,cf,decide_eq_true_eq,gL]
   simp
  rw[hc2]
  by_cases hin:ch s i∈([94,45,47,34]:List Int)
  ·rw[if_pos hin]at hr
   rw[decide_eq_true hin,cond_true]
   subst hr
   exact⟨_,_,rfl,by simp⟩
  rw[if_neg hin]at hr
  rw[decide_eq_false hin,cond_false,aa (yk hb hs hi d)]
  unfold rdK
  cases hrd:rdS (s.drop i)with
  |none=>
   rw[hrd]at hr
   simp only at hr
   subst hr
   exact⟨_,_,rfl,by simp⟩
  |some p=>
   obtain⟨a,n⟩:=p
   rw[hrd]at hr
   simp only at hr
   simp only[aB,cond_false]
   obtain⟨ha,hn1,hn2⟩:=kL (hb.drop i) hrd
   rw[bB]at hn2
   rw[aa (oK s hs (i+n) d 45)]
   simp only
   -- Li goes on with a range
   have go:∀ (j:Nat) (b:Int),j<=s.length->i<j->(0<=b/\b<=255)->brL s cm j (λx=>f x||uM a b x)=res->
    OkP s d 1 (nH s nt res) (aj (IF N0 (a,(b,()))) λv11=>aj (IG N0 (ofB f,(v11.1.1,()))) λv12=>k ((kst s j d,(v12.1.1,())),())):=by
    intro j b hj hij hbb cu
    rw[aa (MR ha hbb)]
    simp only
    rw[aa (MS f (uM a b))]
    exact hk (s.length-j) _ (by omega) ⟨j,_,cm,rfl,hj,by omega,rfl,cu⟩
   by_cases hd:i+n<s.length/\ch s (i+n)=45
   ·rw[if_pos hd]at hr
    have he:fm s (i+n) 45=true:=by unfold fm;simp[hd.1,hd.2]
    rw[he]
    simp only[cond_true,if_true]
    rw[aa (qc s hs (i+n+1) d [93,94,45,47,34] (by simp[maxLen]))]
    simp only
    have hc3:qb s (i+n+1) [93,94,45,47,34]=decide (s.length<=i+n+1\/ch s (i+n+1)∈([93,94,45,47,34]:List Int)):=by
     unfold qb
     rw[cf,aG,decide_eq_true_eq,decide_eq_true_eq,gL]
     simp
    rw[hc3]
    by_cases h4:s.length<=i+n+1\/ch s (i+n+1)∈([93,94,45,47,34]:List Int)
    ·rw[if_pos h4]at hr
     rw[decide_eq_true h4,cond_true]
     subst hr
     exact⟨_,_,rfl,by simp⟩
    rw[if_neg h4]at hr
    rw[decide_eq_false h4,cond_false,aa (yk hb hs (show i+n+1<=s.length by omega) d)]
    unfold rdK
    cases AK:rdS (s.drop (i+n+1))with
    |none=>
     rw[AK]at hr
     simp only at hr
     subst hr
     exact⟨_,_,rfl,by simp⟩
    |some p2=>
     obtain⟨b,n2⟩:=p2
     rw[AK]at hr
     simp only at hr
     simp only[aB,cond_false]
     obtain⟨hbb,hn3,hn4⟩:=kL (hb.drop _) AK
     rw[bB]at hn4
     by_cases hba:b<a
     ·rw[if_pos hba]at hr
      rw[decide_eq_true hba,cond_true]
      subst hr
      exact⟨_,_,rfl,by simp⟩
     ·rw[if_neg hba]at hr
      rw[decide_eq_false hba,cond_false]
      exact go (i+n+1+n2) b (by omega) (by omega) hbb hr
   ·rw[if_neg hd]at hr
    have he:fm s (i+n) 45=false:=by
     unfold fm
     rw[ir,decide_eq_false_iff_not,decide_eq_false_iff_not]
     by_cases h:i+n<s.length
     ·exact .inr λh2=>hd ⟨h,h2⟩
     ·exact .inl h
    rw[he]
    simp only[cond_false,au,if_false]
    exact go (i+n) a (by omega) (by omega) ha hr
end
noncomputable section
def Res(s:List Int)(i:Nat)(t:Rx)(j:Nat):Prop:=i<j/\j<=s.length/\t.len+1<=2*(j-i)/\t.ok
def kn(s:List Int)(i:Nat)(o:Option (Rx×Nat)):Prop:=∀ t j,o=some (t,j)->Res s i t j
theorem CB{l:Nat->Bool}(h:eu l=false):(Rx.set (ofB l)).ok:=⟨rfl,(λe=>by rw[hC.1 e]at h;cases h),P0 l⟩
theorem CC:eu (λ_=>true)=false:=by
 unfold eu
 rw[List.all_eq_false]
 exact⟨0,by simp,by simp⟩
theorem GF{c:Int}(h:0<=c/\c<=255):eu (rT c)=false:=by
 unfold eu
 rw[List.all_eq_false]
 refine⟨c.toNat,cE.2 (by omega),?_⟩
 unfold rT
 simp
 omega
theorem D4{s:List Int}(hb:Bytes s):∀ (m i:Nat) (l:Nat->Bool) (r:Nat->Bool) (j:Nat),brL s m i l=some (r,j)->i<=j:=by
 intro m
 induction m with
 |zero=>intro i l r j h;cases h
 |succ m ih=>
  intro i l r j h
  simp only[brL]at h
  split at h
  ·injection h with h;injection h with h1 h2;omega
  split at h
  ·cases h
  split at h
  ·cases h
  rename_i a n hrd
  have hn:=(kL (hb.drop i) hrd).2.1
  split at h
  ·split at h
   ·cases h
   split at h
   ·cases h
   rename_i b n2 AK
   split at h
   ·cases h
   have:=ih _ _ _ _ h
   omega
  ·have:=ih _ _ _ _ h
   omega
theorem D5{s:List Int}(hb:Bytes s){i0 i:Nat}(hi:i0<i):kn s i0 (brS s i):=by
 intro t j h
 rw[yl]at h
 unfold nH at h
 split at h
 ·cases h
 rename_i l k hl
 generalize (if fm s i 94=true then λx=>!l x else l)=l' at h
 split at h
 ·cases h
 rename_i hn
 injection h with h
 injection h with h1 h2
 subst h1;subst h2
 have h1:=D4 hb _ _ _ _ _ hl
 have h2:i<=k:=by
  refine bF ?_ h1
  split <;> omega
 have hne:¬s.length<=k:=λe=>hn (.inl e)
 have hem:=λe=>hn (.inr e)
 refine⟨by omega,by omega,by simp only[Rx.len];omega,CB ?_⟩
 simpa using hem
theorem uO{s:List Int}(hb:Bytes s){inner:Nat->Nat->Option (Rx×Nat)}{i d:Nat}(hin:kn s (i+1) (inner (i+1) (d+1))):kn s i (mQ inner s i d):=by
 intro t j h
 unfold mQ at h
 split at h
 ·cases h
 rename_i mn
 have hlt:i<s.length:=by
  rcases ap i s.length with h|h
  ·exact h
  ·exact absurd (.inl h) mn
 split at h
 ·injection h with h;injection h with h1 h2;subst h1;subst h2
  exact⟨by omega,by omega,by simp only[Rx.len];omega,CB CC⟩
 split at h
 ·injection h with h;injection h with h1 h2;subst h1;subst h2
  exact⟨by omega,by omega,by simp only[Rx.len];omega,trivial⟩
 split at h
 ·exact D5 hb (by omega) t j h
 split at h
 ·split at h
  ·cases h
  split at h
  ·cases h
  rename_i t2 j2 hi2
  obtain⟨q1,q2,q3,q4⟩:=hin _ _ hi2
  split at h
  ·rename_i hj
   injection h with h;injection h with h1 h2;subst h1;subst h2
   exact⟨by omega,by omega,by omega,q4⟩
  ·cases h
 split at h
 ·cases h
 rename_i c n hrd
 obtain⟨h1,h2,h3⟩:=kL (hb.drop i) hrd
 rw[bB]at h3
 injection h with h;injection h with h4 h5;subst h4;subst h5
 exact⟨by omega,by omega,by simp only[Rx.len];omega,CB (GF h1)⟩
theorem rX(c:Int):iM c=4\/iM c=5\/iM c=6:=by unfold iM;split;exact .inl rfl;split;exact .inr (.inl rfl);exact .inr (.inr rfl)
theorem Jf{s:List Int}:∀ (m i0 i:Nat) (t0 t:Rx) (j:Nat),Res s i0 t0 i->rU s m i t0=some (t,j)->Res s i0 t j:=by
 intro m
 induction m with
 |zero=>intro i0 i t0 t j _ h;cases h
 |succ m ih=>
  intro i0 i t0 t j hr h
  simp only[rU]at h
  split at h
  ·rename_i hc
   refine ih i0 (i+1) _ t j ?_ h
   obtain⟨q1,q2,q3,q4⟩:=hr
   exact⟨by omega,by omega,by simp only[Rx.len];omega,rX _,q4⟩
  ·injection h with h;injection h with h1 h2;subst h1;subst h2;exact hr
theorem qd{s:List Int}(hb:Bytes s){inner:Nat->Nat->Option (Rx×Nat)}{i d:Nat}(hin:kn s (i+1) (inner (i+1) (d+1))):kn s i (kK inner s i d):=by
 intro t j h
 unfold kK at h
 split at h
 ·cases h
 rename_i t0 i0 h0
 exact Jf _ i i0 t0 t j (uO hb hin _ _ h0) h
theorem Jg{s:List Int}(hb:Bytes s){inner:Nat->Nat->Option (Rx×Nat)}{d:Nat}(n:Nat)(hin:∀ i d,s.length-i<n->kn s i (inner i d)):∀ (m i0 i:Nat) (t0 t:Rx) (j:Nat),Res s i0 t0 i->s.length-i0<=n->tb inner s d m i t0=some (t,j)->Res s i0 t j:=by
 intro m
 induction m with
 |zero=>intro i0 i t0 t j _ _ h;cases h
 |succ m ih=>
  intro i0 i t0 t j hr hn h
  simp only[tb]at h
  split at h
  ·rename_i hc
   split at h
   ·cases h
   rename_i t2 j2 h2
   obtain⟨q1,q2,q3,q4⟩:=hr
   obtain⟨p1,p2,p3,p4⟩:=qd hb (hin (i+1) (d+1) (by omega)) _ _ h2
   refine ih i0 j2 _ t j ?_ hn h
   exact⟨by omega,p2,by simp only[Rx.len];omega,q4,p4⟩
  ·injection h with h;injection h with h1 h2;subst h1;subst h2;exact hr
theorem qe{s:List Int}(hb:Bytes s){inner:Nat->Nat->Option (Rx×Nat)}{i d:Nat}(n:Nat)(hin:∀ i d,s.length-i<n->kn s i (inner i d))(hn:s.length-i<=n):kn s i (lJ inner s i d):=by
 intro t j h
 unfold lJ at h
 split at h
 ·cases h
 rename_i t0 i0 h0
 rcases ap i s.length with hlt|hge
 ·exact Jg hb n hin _ i i0 t0 t j (qd hb (hin (i+1) (d+1) (by omega)) _ _ h0) hn h
 ·exfalso
  unfold kK mQ at h0
  rw[if_pos (.inl hge)]at h0
  cases h0
theorem Jh{s:List Int}(hb:Bytes s){inner:Nat->Nat->Option (Rx×Nat)}{d:Nat}(n:Nat)(hin:∀ i d,s.length-i<n->kn s i (inner i d)):∀ (m i0 i:Nat) (t0 t:Rx) (j:Nat),Res s i0 t0 i->s.length-i0<=n->tc inner s d m i t0=some (t,j)->Res s i0 t j:=by
 intro m
 induction m with
 |zero=>intro i0 i t0 t j _ _ h;cases h
 |succ m ih=>
  intro i0 i t0 t j hr hn h
  simp only[tc]at h
  split at h
  ·rename_i hc
   split at h
   ·cases h
   rename_i t2 j2 h2
   obtain⟨q1,q2,q3,q4⟩:=hr
   obtain⟨p1,p2,p3,p4⟩:=qe hb n hin (by omega) _ _ h2
   refine ih i0 j2 _ t j ?_ hn h
   exact⟨by omega,p2,by simp only[Rx.len];omega,q4,p4⟩
  ·injection h with h;injection h with h1 h2;subst h1;subst h2;exact hr
theorem j9{s:List Int}(hb:Bytes s):∀ (n i d:Nat),s.length-i<n->kn s i (km s n i d):=by
 intro n
 induction n with
 |zero=>intro i d h;omega
 |succ n ih=>
  intro i d hn t j h
  simp only[km,Cz]at h
  split at h
  ·cases h
  rename_i t0 i0 h0
  exact Jh hb n ih _ i i0 t0 t j (qe hb n ih (by omega) _ _ h0) (by omega) h
end
noncomputable section
theorem ym(k:Int):Aq N0 (k,())=some ((if k=0\/k=1 then 0 else if k=4\/k=5\/k=6 then 1 else if k=2\/k=3 then 2 else -1,()),()):=by
 unfold Aq
 simp only[aJ]
 by_cases h0:k=0
 ·subst h0;rfl
 by_cases h1:k=1
 ·subst h1;rfl
 by_cases h2:k=2
 ·subst h2;rfl
 by_cases h3:k=3
 ·subst h3;rfl
 by_cases h4:k=4
 ·subst h4;rfl
 by_cases h5:k=5
 ·subst h5;rfl
 by_cases h6:k=6
 ·subst h6;rfl
 simp[h0,h1,h2,h3,h4,h5,h6]
theorem AL{a b:Nat}(ha:a<=1000000)(hb:b<=1000000):((a+b)*40<=140737488355328)/\(a+b<=9223372036854775807):=by omega
theorem Ji{k:Int}(hk:k=4\/k=5\/k=6){l:List Pc}(hl:l.length<=1000000):uH N0 (k,([l],()))=some ((l++[(k,zS)],()),()):=by
 have ht:(if k=0\/k=1 then(0:Int)else if k=4\/k=5\/k=6 then 1 else if k=2\/k=3 then 2 else -1)=1:=by
  have:¬(k=0\/k=1):=by omega
  rw[if_neg this,if_pos hk]
 unfold uH
 simp only[aJ,ym,ht,aC]
 have e1:(!(decide ((1:Int)=(([l]:List (List Pc)).length:Nat))))=false:=rfl
 have e2:decide (((([l]:List (List Pc)).length:Nat):Int)=0)=false:=rfl
 rw[e1,cond_false,e2,cond_false]
 refine aZ (λm x r=>((m=1/\x=((),(([]:List Pc),((0:Int),()))))\/(m=0/\x=((),(l,((1:Int),())))))/\r=some ((l++[(k,zS)],()),())) ?_ N0 1 _ _ (by unfold N0;omega) ⟨.inl ⟨rfl,rfl⟩,rfl⟩
 rintro m x r ⟨hx,rfl⟩ kk hkk
 rcases hx with⟨rfl,rfl⟩|⟨rfl,rfl⟩
 ·have l1:decide ((0:Int)<(([l]:List (List Pc)).length:Nat))=true:=rfl
  have g0:([l]:List (List Pc))[((0:Int)).toNat]?=some l:=rfl
  have n0:(0:Int)<=0:=by omega
  obtain⟨f1,f2⟩:=AL (a:=([]:List Pc).length) (b:=l.length) (by simp) hl
  have w3:IntKind.wrap .i64 ((0:Int)+1)=1:=bD (by omega) (by omega)
  rw[l1,cond_true,if_pos n0,g0]
  simp only[if_pos f1,if_pos f2,w3,bM]
  exact hkk 0 _ _ (by omega) ⟨.inr ⟨rfl,rfl⟩,rfl⟩
 ·have l1:decide ((1:Int)<(([l]:List (List Pc)).length:Nat))=false:=rfl
  obtain⟨f1,f2⟩:=AL (a:=l.length) (b:=([(k,[0,0,0,0])]:List Pc).length) hl (by simp)
  rw[l1,cond_false,if_pos f1,if_pos f2]
  rfl
theorem qf{k:Int}(hk:k=2\/k=3){l l2:List Pc}(hl:l.length<=100000)(hl2:l2.length<=100000):uH N0 (k,([l,l2],()))=some ((l++l2++[(k,zS)],()),()):=by
 have ht:(if k=0\/k=1 then(0:Int)else if k=4\/k=5\/k=6 then 1 else if k=2\/k=3 then 2 else -1)=2:=by
  have h1:¬(k=0\/k=1):=by omega
  have h2:¬(k=4\/k=5\/k=6):=by omega
  rw[if_neg h1,if_neg h2,if_pos hk]
 unfold uH
 simp only[aJ,ym,ht,aC]
 have e1:(!(decide ((2:Int)=(([l,l2]:List (List Pc)).length:Nat))))=false:=rfl
 have e2:decide (((([l,l2]:List (List Pc)).length:Nat):Int)=0)=false:=rfl
 rw[e1,cond_false,e2,cond_false]
 refine aZ (λm x r=>((m=2/\x=((),(([]:List Pc),((0:Int),()))))\/(m=1/\x=((),(l,((1:Int),()))))\/(m=0/\x=((),(l++l2,((2:Int),())))))/\r=some ((l++l2++[(k,zS)],()),())) ?_ N0 2 _ _ (by unfold N0;omega) ⟨.inl ⟨rfl,rfl⟩,rfl⟩
 rintro m x r ⟨hx,rfl⟩ kk hkk
 rcases hx with⟨rfl,rfl⟩|⟨rfl,rfl⟩|⟨rfl,rfl⟩
 ·have l1:decide ((0:Int)<(([l,l2]:List (List Pc)).length:Nat))=true:=rfl
  have g0:([l,l2]:List (List Pc))[((0:Int)).toNat]?=some l:=rfl
  have n0:(0:Int)<=0:=by omega
  obtain⟨f1,f2⟩:=AL (a:=([]:List Pc).length) (b:=l.length) (by simp) (by omega)
  have w3:IntKind.wrap .i64 ((0:Int)+1)=1:=bD (by omega) (by omega)
  rw[l1,cond_true,if_pos n0,g0]
  simp only[if_pos f1,if_pos f2,w3,bM]
  exact hkk 1 _ _ (by omega) ⟨.inr (.inl ⟨rfl,rfl⟩),rfl⟩
 ·have l1:decide ((1:Int)<(([l,l2]:List (List Pc)).length:Nat))=true:=rfl
  have g0:([l,l2]:List (List Pc))[((1:Int)).toNat]?=some l2:=rfl
  have n0:(0:Int)<=1:=by omega
  obtain⟨f1,f2⟩:=AL (a:=l.length) (b:=l2.length) (by omega) (by omega)
  have w3:IntKind.wrap .i64 ((1:Int)+1)=2:=bD (by omega) (by omega)
  rw[l1,cond_true,if_pos n0,g0]
  simp only[if_pos f1,if_pos f2,w3]
  exact hkk 0 _ _ (by omega) ⟨.inr (.inr ⟨rfl,rfl⟩),rfl⟩
 ·have l1:decide ((2:Int)<(([l,l2]:List (List Pc)).length:Nat))=false:=rfl
  obtain⟨f1,f2⟩:=AL (a:=(l++l2).length) (b:=([(k,[0,0,0,0])]:List Pc).length) (by simp;omega) (by simp)
  rw[l1,cond_false,if_pos f1,if_pos f2]
  rfl
abbrev RdF:=(List Int×(Int×Int))×Unit->Option ((List Pc×(Bool×Unit))×((List Int×(Int×Int))×Unit))
theorem fZ{s:List Int}{i:Nat}{c:Int}(h1:i<s.length)(h2:ch s i=c):fm s i c=true:=by unfold fm;simp[h1,h2]
theorem iN{s:List Int}{i:Nat}{c:Int}(h2:¬ch s i=c):fm s i c=false:=by unfold fm;simp[h2]
theorem P1{s:List Int}(hb:Bytes s)(hs:s.length<=1600){q2 q3 q4 q5:RdF}{inner:Nat->Nat->Option (Rx×Nat)}{i d:Nat}(hd:d<=i)
 (hin:i<s.length->OkP s ((d+1:Nat):Int) (2*(s.length-(i+1))) (inner (i+1) (d+1)) (q2 (kst s (i+1) ((d+1:Nat):Int),()))) (cu:kn s (i+1) (inner (i+1) (d+1))):
 OkP s d (2*(s.length-i)) (mQ inner s i d) (Av N0 q2 q3 q4 q5 (kst s i d,())):=by
 have hsm:s.length<=maxLen:=by unfold maxLen;omega
 have rY:=oK s hsm
 unfold Av
 dsimp only
 rw[aa (qc s hsm i d [124,41,42,43,63,93,47,34] (by simp[maxLen]))]
 simp only
 have hc:qb s i [124,41,42,43,63,93,47,34]=decide (s.length<=i\/ch s i∈([124,41,42,43,63,93,47,34]:List Int)):=by
  unfold qb
  rw[cf,aG,decide_eq_true_eq,decide_eq_true_eq,gL]
  simp
 rw[hc]
 unfold mQ
 by_cases h0:s.length<=i\/ch s i∈([124,41,42,43,63,93,47,34]:List Int)
 ·rw[if_pos h0,decide_eq_true h0,cond_true]
  exact⟨_,_,rfl,by simp⟩
 rw[if_neg h0,decide_eq_false h0,cond_false]
 have hlt:i<s.length:=by
  rcases ap i s.length with h|h
  ·exact h
  ·exact absurd (.inl h) h0
 rw[aa (rY i d 46)]
 simp only
 by_cases h1:ch s i=46
 ·rw[if_pos h1,fZ hlt h1]
  simp only[cond_true,if_true,DY,aC]
  rfl
 rw[if_neg h1,iN h1]
 simp only[cond_false,au,if_false]
 rw[aa (rY i d 126)]
 simp only
 by_cases h2:ch s i=126
 ·rw[if_pos h2,fZ hlt h2]
  simp only[cond_true,if_true]
  rfl
 rw[if_neg h2,iN h2]
 simp only[cond_false,au,if_false]
 rw[aa (rY i d 40)]
 simp only
 by_cases h3:ch s i=40
 ·have h4:¬ch s i=91:=by omega
  rw[if_neg h4,if_pos h3,fZ hlt h3]
  simp only[cond_true,if_true]
  have w1:IntKind.wrap .i64 ((d:Int)+1)=((d+1:Nat):Int):=br (n:=1601) (by omega) (by simp[maxLen])
  have P2:((kst s (i+1) (d:Int)).1,((kst s (i+1) (d:Int)).2.1,IntKind.wrap .i64 ((kst s (i+1) (d:Int)).2.2+1)))=kst s (i+1) ((d+1:Nat):Int):=by
   show(s,(((i+1:Nat):Int),IntKind.wrap .i64 ((d:Int)+1)))=_
   rw[w1];rfl
  rw[P2]
  have hq:=hin hlt
  unfold OkP at hq
  cases hi2:inner (i+1) (d+1)with
  |none=>
   rw[hi2]at hq
   obtain⟨r,k,hq,hrl⟩:=hq
   rw[aa hq]
   simp only[aJ,cond_false,ite_self]
   exact⟨_,_,rfl,by omega⟩
  |some p=>
   obtain⟨t,j⟩:=p
   rw[hi2]at hq
   obtain⟨r1,r2,r3,r4⟩:=cu t j hi2
   have hpl:=t.aV
   rw[aa hq]
   simp only[aJ,cond_true]
   have w2:IntKind.wrap .i64 ((kst s j ((d+1:Nat):Int)).2.2-1)=(d:Int):=by
    show IntKind.wrap .i64 (((d+1:Nat):Int)-1)=_
    rw[bD (by omega) (by omega)];omega
   simp only[w2]
   have Vl:((kst s j ((d+1:Nat):Int)).1,((kst s j ((d+1:Nat):Int)).2.1,(d:Int)))=kst s j (d:Int):=rfl
   rw[Vl]
   by_cases h99:99<=d
   ·rw[if_pos h99,decide_eq_false (by omega),cond_false]
    exact⟨_,_,rfl,by omega⟩
   ·rw[if_neg h99,decide_eq_true (by omega),cond_true,aa (rY j d 41)]
    simp only
    by_cases h41:j<s.length/\ch s j=41
    ·rw[if_pos h41,fZ h41.1 h41.2]
     rfl
    ·rw[if_neg h41]
     have:fm s j 41=false:=by
      unfold fm
      rw[ir,decide_eq_false_iff_not,decide_eq_false_iff_not]
      by_cases h:j<s.length
      ·exact .inr λh2=>h41 ⟨h,h2⟩
      ·exact .inl h
     rw[this]
     exact⟨_,_,rfl,by omega⟩
 rw[iN h3]
 simp only[cond_false,au,if_false]
 rw[aa (rY i d 91)]
 simp only
 by_cases h4:ch s i=91
 ·rw[if_pos h4,fZ hlt h4]
  simp only[cond_true,if_true]
  have hq:=MW hb hsm (show i+1<=s.length by omega) (d:Int)
  unfold OkP at hq
  cases hbr:brS s (i+1)with
  |none=>
   rw[hbr]at hq
   obtain⟨r,k,hq,hrl⟩:=hq
   rw[aa hq]
   exact⟨_,_,rfl,by show r.length<=_;omega⟩
  |some p=>
   obtain⟨t,j⟩:=p
   rw[hbr]at hq
   simp only at hq
   rw[aa hq]
   rfl
 rw[if_neg h4,if_neg h3,iN h4]
 simp only[cond_false,au,if_false]
 rw[aa (yk hb hsm (oo hlt) d)]
 unfold rdK
 cases hrd:rdS (s.drop i)with
 |none=>
  simp only
  rw[aa (D2 (c:=0) ⟨by omega,by omega⟩)]
  exact⟨_,_,rfl,by simp;omega⟩
 |some p=>
  obtain⟨c,n⟩:=p
  obtain⟨r1,_,_⟩:=kL (hb.drop i) hrd
  simp only
  rw[aa (D2 r1)]
  rfl
end
noncomputable section
theorem GG{s:List Int}(hb:Bytes s)(hs:s.length<=1600){q2 q3 q4 q5:RdF}{inner:Nat->Nat->Option (Rx×Nat)}{i d:Nat}{B:Nat}
 (ez:OkP s d B (mQ inner s i d) (q5 (kst s i d,()))) (cu:kn s i (mQ inner s i d)):
 OkP s d 0 (kK inner s i d) (Au N0 q2 q3 q4 q5 (kst s i d,())):=by
 have hsm:s.length<=maxLen:=by unfold maxLen;omega
 have rY:=oK s hsm
 unfold Au
 dsimp only
 unfold kK
 unfold OkP at ez
 cases ho:mQ inner s i d with
 |none=>
  rw[ho]at ez
  obtain⟨r,k,hq,hrl⟩:=ez
  rw[aa hq]
  refine ew (λm x=>m=0) (OkP s d 0 none) ?_ N0 0 _ (by unfold N0;omega) rfl
  rintro m x hm k hk
  exact⟨_,_,rfl,by simp⟩
 |some p=>
  obtain⟨t0,j0⟩:=p
  rw[ho]at ez
  simp only at ez
  have hr0:=cu t0 j0 ho
  rw[aa ez]
  simp only
  generalize hrs:rU s s.length.succ j0 t0=res
  refine ew (λm x=>∃ (j:Nat) (t:Rx) (cm:Nat),x=((kst s j d,()),(t.post,()))/\Res s i t j/\s.length-j<cm/\m=s.length-j/\rU s cm j t=res) (OkP s d 0 res) ?_ N0 (s.length-j0) _ (by unfold N0;omega) ⟨j0,t0,_,rfl,hr0,by omega,rfl,hrs⟩
  rintro m x ⟨j,t,cm,rfl,hr,hf,hm,hl⟩ k hk
  obtain⟨cm,rfl⟩:∃ q,cm=q+1:=⟨cm-1,by omega⟩
  simp only[rU]at hl
  simp only[aJ,cond_true]
  have Jj:∀ kk:Int,(kk=4\/kk=5\/kk=6)->uH N0 (kk,([t.post],()))=some (((Rx.rep kk t).post,()),()):=λkk hkk=>by
   rw[Ji hkk (by rw[t.aV];obtain⟨_,h1,h2,_⟩:=hr;omega)]
   rfl
  have go:j<s.length->∀ kk:Int,kk=iM (ch s j)->rU s cm (j+1) (.rep (iM (ch s j)) t)=res->OkP s d 0 res (k ((kst s (j+1) d,()),((Rx.rep kk t).post,()))):=by
   intro hlt kk hkk hl
   obtain⟨h1,h2,h3,h4⟩:=hr
   exact hk (s.length-(j+1)) _ (by omega) ⟨j+1,.rep kk t,cm,rfl,⟨by omega,by omega,by simp only[Rx.len];omega,by rw[hkk];exact rX _,h4⟩,by omega,rfl,by rw[hkk];exact hl⟩
  rw[aa (rY j d 42)]
  simp only
  by_cases hc:j<s.length/\ch s j∈([42,43,63]:List Int)
  ·rw[if_pos hc]at hl
   obtain⟨hlt,lA⟩:=hc
   by_cases h1:ch s j=42
   ·rw[fZ hlt h1]
    simp only[cond_true,if_true]
    rw[aa (Jj 4 (by omega))]
    exact go hlt 4 (by rw[h1];rfl) hl
   ·rw[iN h1]
    simp only[cond_false,au,if_false]
    rw[aa (rY j d 43)]
    simp only
    by_cases h2:ch s j=43
    ·rw[fZ hlt h2]
     simp only[cond_true,if_true]
     rw[aa (Jj 5 (by omega))]
     exact go hlt 5 (by rw[h2];rfl) hl
    ·rw[iN h2]
     simp only[cond_false,au,if_false]
     rw[aa (rY j d 63)]
     simp only
     have h3:ch s j=63:=by simpa [h1,h2]using lA
     rw[fZ hlt h3]
     simp only[cond_true,if_true]
     rw[aa (Jj 6 (by omega))]
     exact go hlt 6 (by rw[h3];rfl) hl
  ·rw[if_neg hc]at hl
   have hno:∀ c:Int,c∈([42,43,63]:List Int)->fm s j c=false:=by
    intro c hcm
    unfold fm
    rw[ir,decide_eq_false_iff_not,decide_eq_false_iff_not]
    by_cases h:j<s.length
    ·exact .inr λh2=>hc ⟨h,h2 ▸ hcm⟩
    ·exact .inl h
   rw[hno 42 (by simp)]
   simp only[cond_false,au,if_false]
   rw[aa (rY j d 43)]
   simp only
   rw[hno 43 (by simp)]
   simp only[cond_false,au,if_false]
   rw[aa (rY j d 63)]
   simp only
   rw[hno 63 (by simp)]
   simp only[cond_false,au,if_false]
   subst hl
   rfl
theorem P3{s:List Int}(hb:Bytes s)(hs:s.length<=1600){q2 q3 q4 q5:RdF}{inner:Nat->Nat->Option (Rx×Nat)}{i d:Nat}(hi:i<=s.length)
 (bG:∀ j,i<=j->j<=s.length->OkP s d 0 (kK inner s j d) (q4 (kst s j d,()))) (cu:∀ j,i<=j->kn s j (kK inner s j d)):
 OkP s d (2*(s.length-i)) (lJ inner s i d) (As N0 q2 q3 q4 q5 (kst s i d,())):=by
 have hsm:s.length<=maxLen:=by unfold maxLen;omega
 unfold As
 dsimp only
 unfold lJ
 have ez:=bG i (aq _) hi
 unfold OkP at ez
 cases ho:kK inner s i d with
 |none=>
  rw[ho]at ez
  obtain⟨r,k,hq,hrl⟩:=ez
  rw[aa hq]
  refine ew (λm x=>m=0/\x=((k,()),(r,(false,())))) (OkP s d (2*(s.length-i)) none) ?_ N0 0 _ (by unfold N0;omega) ⟨rfl,rfl⟩
  rintro m x ⟨_,rfl⟩ k hk
  simp only[aJ,cond_false]
  exact⟨_,_,rfl,by omega⟩
 |some p=>
  obtain⟨t0,j0⟩:=p
  rw[ho]at ez
  simp only at ez
  have hr0:=cu i (aq _) t0 j0 ho
  rw[aa ez]
  simp only
  generalize hrs:tb inner s d s.length.succ j0 t0=res
  refine ew (λm x=>(∃ (j:Nat) (t:Rx) (cm:Nat),x=((kst s j d,()),(t.post,(true,())))/\Res s i t j/\s.length-j<cm/\m=s.length-j+1/\tb inner s d cm j t=res)\/(∃ r k,x=((k,()),(r,(false,())))/\r.length<=2*(s.length-i)/\res=none/\m=0)) (OkP s d (2*(s.length-i)) res) ?_ N0 (s.length-j0+1) _ (by unfold N0;omega) (.inl ⟨j0,t0,_,rfl,hr0,by omega,rfl,hrs⟩)
  rintro m x (⟨j,t,cm,rfl,hr,hf,hm,hl⟩|⟨r,kk,rfl,hrl,rfl,rfl⟩) k hk
  ·obtain⟨cm,rfl⟩:∃ q,cm=q+1:=⟨cm-1,by omega⟩
   simp only[tb]at hl
   simp only[aJ,cond_true]
   rw[aa (qc s hsm j d [124,41] (by simp[maxLen]))]
   simp only
   have hc:qb s j [124,41]=decide (¬(j<s.length/\ch s j∉([124,41]:List Int))):=by
    unfold qb
    rw[cf,aG,decide_eq_true_eq,decide_eq_true_eq,gL]
    simp only[az,cq,or_false,decide_eq_true_eq]
    constructor
    ·rintro(h|⟨c,hc,h⟩)
     ·omega
     ·rintro⟨_,h2⟩;exact h2 (by rw[h];exact hc)
    ·intro h
     by_cases hj:j<s.length
     ·right
      refine⟨ch s j,?_,rfl⟩
      by_cases h2:ch s j=124\/ch s j=41
      ·exact h2
      ·exact absurd ⟨hj,h2⟩ h
     ·left;omega
   rw[hc]
   by_cases hgo:j<s.length/\ch s j∉([124,41]:List Int)
   ·rw[if_pos hgo]at hl
    rw[decide_eq_false (by simpa using hgo)]
    simp only[aI,cond_true]
    obtain⟨g1,g2,g3,g4⟩:=hr
    have hq:=bG j (by omega) (by omega)
    unfold OkP at hq
    cases h2:kK inner s j d with
    |none=>
     rw[h2]at hq hl
     obtain⟨r,kx,hq,hrl⟩:=hq
     rw[aa hq]
     simp only
     have hr0:r=[]:=dG (by omega)
     subst hr0
     rw[aa (qf (.inl rfl) (by rw[t.aV];omega) (by simp))]
     exact hk 0 _ (by omega) (.inr ⟨_,_,rfl,by simp[t.aV];omega,hl.symm,rfl⟩)
    |some p=>
     obtain⟨t2,j2⟩:=p
     rw[h2]at hq hl
     simp only at hq hl
     obtain⟨f1,f2,f3,f4⟩:=cu j (by omega) t2 j2 h2
     rw[aa hq]
     simp only
     rw[aa (qf (.inl rfl) (by rw[t.aV];omega) (by rw[t2.aV];omega))]
     exact hk (s.length-j2+1) _ (by omega) (.inl ⟨j2,.cat t t2,cm,rfl,⟨by omega,by omega,by simp only[Rx.len];omega,g4,f4⟩,by omega,rfl,hl⟩)
   ·rw[if_neg hgo]at hl
    rw[decide_eq_true hgo]
    simp only[aB,cond_false]
    subst hl
    rfl
  ·simp only[aJ,cond_false]
   exact⟨_,_,rfl,hrl⟩
theorem P4{s:List Int}(hb:Bytes s)(hs:s.length<=1600){q2 q3 q4 q5:RdF}{inner:Nat->Nat->Option (Rx×Nat)}{i d:Nat}(hi:i<=s.length)
 (yn:∀ j,i<=j->j<=s.length->OkP s d (2*(s.length-j)) (lJ inner s j d) (q3 (kst s j d,()))) (cu:∀ j,i<=j->kn s j (lJ inner s j d)):
 OkP s d (2*(s.length-i)) (Cz inner s i d) (Ar N0 q2 q3 q4 q5 (kst s i d,())):=by
 have hsm:s.length<=maxLen:=by unfold maxLen;omega
 have rY:=oK s hsm
 unfold Ar
 dsimp only
 unfold Cz
 have ez:=yn i (aq _) hi
 unfold OkP at ez
 cases ho:lJ inner s i d with
 |none=>
  rw[ho]at ez
  obtain⟨r,k,hq,hrl⟩:=ez
  rw[aa hq]
  refine ew (λm x=>m=0/\x=((k,()),(r,(false,())))) (OkP s d (2*(s.length-i)) none) ?_ N0 0 _ (by unfold N0;omega) ⟨rfl,rfl⟩
  rintro m x ⟨_,rfl⟩ k hk
  simp only[aJ,cond_false]
  exact⟨_,_,rfl,by omega⟩
 |some p=>
  obtain⟨t0,j0⟩:=p
  rw[ho]at ez
  simp only at ez
  have hr0:=cu i (aq _) t0 j0 ho
  rw[aa ez]
  simp only
  generalize hrs:tc inner s d s.length.succ j0 t0=res
  refine ew (λm x=>(∃ (j:Nat) (t:Rx) (cm:Nat),x=((kst s j d,()),(t.post,(true,())))/\Res s i t j/\s.length-j<cm/\m=s.length-j+1/\tc inner s d cm j t=res)\/(∃ r k,x=((k,()),(r,(false,())))/\r.length<=2*(s.length-i)/\res=none/\m=0)) (OkP s d (2*(s.length-i)) res) ?_ N0 (s.length-j0+1) _ (by unfold N0;omega) (.inl ⟨j0,t0,_,rfl,hr0,by omega,rfl,hrs⟩)
  rintro m x (⟨j,t,cm,rfl,hr,hf,hm,hl⟩|⟨r,kk,rfl,hrl,rfl,rfl⟩) k hk
  ·obtain⟨cm,rfl⟩:∃ q,cm=q+1:=⟨cm-1,by omega⟩
   simp only[tc]at hl
   simp only[aJ,cond_true]
   rw[aa (rY j d 124)]
   simp only
   by_cases hgo:j<s.length/\ch s j=124
   ·rw[if_pos hgo]at hl
    rw[fZ hgo.1 hgo.2]
    simp only[if_true,cond_true]
    obtain⟨g1,g2,g3,g4⟩:=hr
    have hq:=yn (j+1) (by omega) (by omega)
    unfold OkP at hq
    cases h2:lJ inner s (j+1) d with
    |none=>
     rw[h2]at hq hl
     obtain⟨r,kx,hq,hrl⟩:=hq
     rw[aa hq]
     simp only
     rw[aa (qf (.inr rfl) (by rw[t.aV];omega) (by omega))]
     exact hk 0 _ (by omega) (.inr ⟨_,_,rfl,by simp[t.aV];omega,hl.symm,rfl⟩)
    |some p=>
     obtain⟨t2,j2⟩:=p
     rw[h2]at hq hl
     simp only at hq hl
     obtain⟨f1,f2,f3,f4⟩:=cu (j+1) (by omega) t2 j2 h2
     rw[aa hq]
     simp only
     rw[aa (qf (.inr rfl) (by rw[t.aV];omega) (by rw[t2.aV];omega))]
     exact hk (s.length-j2+1) _ (by omega) (.inl ⟨j2,.alt t t2,cm,rfl,⟨by omega,by omega,by simp only[Rx.len];omega,g4,f4⟩,by omega,rfl,hl⟩)
   ·rw[if_neg hgo]at hl
    have:fm s j 124=false:=by
     unfold fm
     rw[ir,decide_eq_false_iff_not,decide_eq_false_iff_not]
     by_cases h:j<s.length
     ·exact .inr λh2=>hgo ⟨h,h2⟩
     ·exact .inl h
    rw[this]
    simp only[au,if_false,cond_false]
    subst hl
    rfl
  ·simp only[aJ,cond_false]
   exact⟨_,_,rfl,hrl⟩
end
noncomputable section
theorem P5{s:List Int}(hb:Bytes s)(hs:s.length<=1600):∀ (n D i d:Nat),4*n<=D->s.length-i<n->i<=s.length->d<=i->OkP s d (2*(s.length-i)) (km s n i d) ((da N0 D).1 (kst s i d,())):=by
 intro n
 induction n with
 |zero=>intro D i d _ h;omega
 |succ n ih=>
  intro D i d hD hn hi hd
  obtain⟨D,rfl⟩:∃ q,D=q+1+1+1+1:=⟨D-4,by omega⟩
  have cu:∀ i d,s.length-i<n->kn s i (km s n i d):=λi d h=>j9 hb n i d h
  have ez:∀ j,i<=j->j<=s.length->OkP s d (2*(s.length-j)) (mQ (km s n) s j d) ((da N0 (D+1)).2.2.2 (kst s j d,())):=λj hij hj=>
   P1 (q2:=(da N0 (D)).1) (q3:=(da N0 (D)).2.1) (q4:=(da N0 (D)).2.2.1) (q5:=(da N0 (D)).2.2.2) hb hs (bF hd hij) (λhlt=>ih D (j+1) (d+1) (by omega) (by omega) (by omega) (by omega)) (λt j2 h=>by
    rcases ap j s.length with hlt|hge
    ·exact cu (j+1) (d+1) (by omega) t j2 h
    ·cases n with
     |zero=>cases h
     |succ n=>exact j9 hb (n+1) (j+1) (d+1) (by omega) t j2 h)
  have GH:∀ j,i<=j->kn s (j+1) (km s n (j+1) (d+1)):=λj hij t j2 h=>by
   rcases ap j s.length with hlt|hge
   ·exact cu (j+1) (d+1) (by omega) t j2 h
   ·cases n with
    |zero=>cases h
    |succ n=>exact j9 hb (n+1) (j+1) (d+1) (by omega) t j2 h
  have bG:∀ j,i<=j->j<=s.length->OkP s d 0 (kK (km s n) s j d) ((da N0 (D+1+1)).2.2.1 (kst s j d,())):=λj hij hj=>
   GG (q2:=(da N0 (D+1)).1) (q3:=(da N0 (D+1)).2.1) (q4:=(da N0 (D+1)).2.2.1) (q5:=(da N0 (D+1)).2.2.2) hb hs (ez j hij hj) (uO hb (GH j hij))
  have yn:∀ j,i<=j->j<=s.length->OkP s d (2*(s.length-j)) (lJ (km s n) s j d) ((da N0 (D+1+1+1)).2.1 (kst s j d,())):=λj hij hj=>
   P3 (q2:=(da N0 (D+1+1)).1) (q3:=(da N0 (D+1+1)).2.1) (q4:=(da N0 (D+1+1)).2.2.1) (q5:=(da N0 (D+1+1)).2.2.2) hb hs hj (λj2 hj2 hj3=>bG j2 (bF hij hj2) hj3) (λj2 hj2=>qd hb (GH j2 (bF hij hj2)))
  exact P4 (q2:=(da N0 (D+1+1+1)).1) (q3:=(da N0 (D+1+1+1)).2.1) (q4:=(da N0 (D+1+1+1)).2.2.1) (q5:=(da N0 (D+1+1+1)).2.2.2) hb hs hi yn (λj hij t j2 h=>qe hb n cu (by omega) t j2 h)
def Jk(o:Except Int Rx):(List Pc×(Int×Unit))×Unit:=match o with
 |.ok t=>((t.post,(0,())),())
 |.error e=>(([],(e,())),())
theorem D6{s:List Int}(hb:Bytes s)(hsm:s.length<=maxLen):Mo N0 (s,())=some (Jk (gk s)):=by
 unfold Mo gk
 dsimp only
 by_cases hs:1600<s.length
 ·rw[if_pos hs,decide_eq_true (show(1600:Int)<((s.length:Nat):Int) by omega),cond_true]
  rfl
 rw[if_neg hs,decide_eq_false (show ¬(1600:Int)<((s.length:Nat):Int) by omega),cond_false]
 have hq:OkP s ((0:Nat):Int) (2*(s.length-0)) (km s s.length.succ 0 0) (PH N0 (kst s 0 ((0:Nat):Int),())):=P5 hb (by omega) s.length.succ N0 0 0 (by unfold N0;omega) (by omega) (aH _) (aq _)
 have hk:kst s 0 ((0:Nat):Int)=(s,((0:Int),(0:Int))):=rfl
 rw[hk]at hq
 unfold OkP at hq
 cases ho:km s s.length.succ 0 0 with
 |none=>
  rw[ho]at hq
  obtain⟨r,k,hq,_⟩:=hq
  rw[aa hq]
  rfl
 |some p=>
  obtain⟨t,i⟩:=p
  rw[ho]at hq
  simp only at hq
  rw[aa hq]
  simp only[aJ,aB,cond_false]
  have h1:decide ((kst s i ((0:Nat):Int)).2.1<((s.length:Nat):Int))=decide (i<s.length):=by
   rw[decide_eq_decide];show(i:Int)<_↔_;omega
  rw[h1]
  by_cases h2:i<s.length
  ·rw[if_pos h2,decide_eq_true h2];rfl
  rw[if_neg h2,decide_eq_false h2,cond_false]
  rw[t.aV]
  by_cases h3:400<t.len
  ·rw[if_pos h3,decide_eq_true (show(400:Int)<((t.len:Nat):Int) by omega)];rfl
  ·rw[if_neg h3,decide_eq_false (show ¬(400:Int)<((t.len:Nat):Int) by omega)];rfl
theorem rZ{s:List Int}(hb:Bytes s){t:Rx}(h:gk s=.ok t):t.ok/\t.len<=400/\t.len+1<=2*s.length:=by
 unfold gk at h
 split at h
 ·cases h
 split at h
 ·cases h
 rename_i t2 i ho
 obtain⟨h1,h2,h3,h4⟩:=j9 hb _ _ _ (by omega) _ _ ho
 split at h
 ·cases h
 split at h
 ·cases h
 injection h with h
 subst h
 exact⟨h4,by omega,by omega⟩
end
noncomputable section
theorem aW{A R:Type}{J:A->Option R}{body:(A->Option R)->Option R}(x:A)(h:∀ K,body K=K x){r:Option R}(hr:J x=r):aw J body=r:=(h J).trans hr
theorem eo{A R:Type}{P:Option R->Prop}{J:A->Option R}{body:(A->Option R)->Option R}(x:A)(h:∀ K,body K=K x)(hr:P (J x)):P (aw J body):=by
 show P (body J)
 rw[h J];exact hr
def MX(l:List Int)(c:Int):Bool:=l.any λb=>decide (b=c)
theorem Jl(l:List Int)(c:Int):MX l c=decide (c∈l):=by
 unfold MX
 rw[cf,gL,decide_eq_true_eq]
 constructor
 ·rintro⟨b,hb,h⟩
  rw[decide_eq_true_eq]at h
  exact h ▸ hb
 ·intro h
  exact⟨c,h,by simp⟩
theorem MY(l:List Int)(hl:l.length<=maxLen)(c:Int):Ax N0 (l,(c,()))=some ((decide (c∈l),()),()):=by
 unfold Ax
 simp only
 rw[<-Jl]
 refine aZ (λm x r=>∃ j:Nat,x=((),((j:Int),()))/\m+j=l.length/\r=some ((MX (l.drop j) c,()),())) ?_ N0 l.length _ _ (by have:=j7 hl;omega) ⟨0,rfl,rfl,by rw[du]⟩
 rintro m x r ⟨j,rfl,hm,rfl⟩ k hk
 simp only
 rcases ap j l.length with hj|hj
 ·have n1:(0:Int)<=(j:Int):=by omega
  rw[decide_eq_true (show(j:Int)<((l.length:Nat):Int) by omega),cond_true,if_pos n1,ae,ah hj]
  simp only[br hj hl]
  unfold MX
  rw[cQ hj,List.any_cons]
  cases hd:decide (l[j]=c)
  ·rw[cond_false,cT]
   exact hk (m-1) _ _ (by omega) ⟨j+1,rfl,by omega,rfl⟩
  ·rw[cond_true,dW]
 ·rw[decide_eq_false (show ¬(j:Int)<((l.length:Nat):Int) by omega),cond_false,kP hj]
  rfl
theorem qg(l:List Int)(hl:l.length<=maxLen)(c:Int):Aw N0 (l,(c,()))=some ((decide (c∈l),()),()):=by
 have:Aw=Ax:=rfl
 rw[this];exact MY l hl c
def r9(n:Nat):Int:=if n<10 then 48+(n:Int)else 87+(n:Int)
def Jm(c:Nat):List Int:=if c=10 then [92,110]else if c=9 then [92,116]else if c=13 then [92,114]else
 if c<32\/126<c then [92,120,r9 (c / 16),r9 (c % 16)]else if c=92 then [92,92]else [(c:Int)]
theorem Jn:∀ c:Fin 256,MC N0 (((c.val:Nat):Int),(([]:List Int),()))=some ((Jm c.val,()),()):=by decide +kernel
theorem Jo{c:Nat}(h:c<256):MC N0 ((c:Int),(([]:List Int),()))=some ((Jm c,()),()):=Jn ⟨c,h⟩
theorem Jp:∀ c:Fin 256,IS N0 (((c.val:Nat):Int),())=some ((mL ((c.val:Nat):Int),()),()):=by decide +kernel
theorem MZ{c:Int}(h:0<=c/\c<=255):IS N0 (c,())=some ((mL c,()),()):=by
 have:=Jp ⟨c.toNat,by omega⟩
 simp only[dm h.1]at this
 exact this
def Sb:List Int:=[48,49,50,51,52,53,54,55,56,57,97,98,99,100,101,102]
theorem AM:∀ q:Fin 16,cz Sb ((q.val:Nat):Int) (((q.val+1:Nat)):Int)=[r9 q.val]:=by decide +kernel
theorem Jq:∀ q:Fin 16,qa (r9 q.val)=some ((q.val:Nat):Int):=by decide +kernel
theorem wW{q:Nat}(h:q<16):qa (r9 q)=some (q:Int):=Jq ⟨q,h⟩
theorem wX{h v:Int}(e:qa h=some v):r9 v.toNat=h:=by
 unfold qa at e
 unfold r9
 split at e
 ·injection e with e
  rw[if_pos (by omega)];omega
 ·split at e
  ·injection e with e
   rw[if_neg (by omega)];omega
  ·cases e
def mA(s:List Int)(c:Nat):Bool:=(decide (c=10)&&decide (s[1]?=some 110))||(decide (c=9)&&decide (s[1]?=some 116))||(decide (c=13)&&decide (s[1]?=some 114))
def mB(s:List Int)(c:Nat):Bool:=decide (s[1]?=some 120)&&(decide (s[2]?=some (r9 (c / 16)))&&decide (s[3]?=some (r9 (c % 16))))
theorem Sc{r:List Int}{c:Nat}(h:mA (92::r) c=true):rdS (92::r)=some ((c:Int),2):=by
 unfold mA at h
 cases r with
 |nil=>simp at h
 |cons d r2=>
  simp only[im,gF,bh,aG,ag,decide_eq_true_eq]at h
  rcases h with(⟨rfl,rfl⟩|⟨rfl,rfl⟩)|⟨rfl,rfl⟩ <;> rfl
theorem Sd{r:List Int}{c:Nat}(hc:c<256)(h:mB (92::r) c=true):rdS (92::r)=some ((c:Int),4):=by
 unfold mB at h
 match r with
 |[]=>simp at h
 |[d]=>simp at h
 |[d,x]=>simp at h
 |d::x::y::r4=>
  simp only[im,gF,bh,ag,decide_eq_true_eq]at h
  obtain⟨rfl,rfl,rfl⟩:=h
  have e1:=wW (q:=c / 16) (by omega)
  have e2:=wW (q:=c % 16) (by omega)
  simp only[rdS]
  rw[e1,e2]
  have:(16:Int)*((c / 16:Nat):Int)+((c % 16:Nat):Int)=(c:Int):=by omega
  simp
  omega
def Jr(s:List Int):Option (Int×Nat):=match s[1]? with
 |some d=>if 32<=d/\d<=126/\mL d=false then some (d,2)else none
 |none=>none
theorem M0{r:List Int}(hA:∀ c,c<256->mA (92::r) c=false)(hB:∀ c,c<256->mB (92::r) c=false):rdS (92::r)=Jr (92::r):=by
 match r with
 |[]=>rfl
 |d::r2=>
  have a1:=hA 10 (by omega)
  have a2:=hA 9 (by omega)
  have a3:=hA 13 (by omega)
  simp only[mA,im,gF,bh]at a1 a2 a3
  have d1:¬d=110:=by simpa using a1
  have d2:¬d=116:=by simpa using a2
  have d3:¬d=114:=by simpa using a3
  simp only[rdS,Jr,im,gF,ne_eq,not_true_eq_false,if_false,d1,d2,d3]
  by_cases d4:d=120
  ·subst d4
   rw[if_pos rfl]
   have hw:¬((32:Int)<=120/\(120:Int)<=126/\mL 120=false):=by decide
   rw[if_neg hw]
   match r2 with
   |[]=>rfl
   |[x]=>rfl
   |x::y::r4=>
    simp only
    cases hx:qa x with
    |none=>rfl
    |some a=>
     cases hy:qa y with
     |none=>rfl
     |some b=>
      exfalso
      have ha:=oJ hx
      have hb:=oJ hy
      have:=hB (16*a+b).toNat (by omega)
      have e1:(16*a+b).toNat / 16=a.toNat:=by omega
      have e2:(16*a+b).toNat % 16=b.toNat:=by omega
      simp[mB,e1,e2,wX hx,wX hy]at this
  ·rw[if_neg d4]
   cases hw:mL d
   ·by_cases h1:32<=d/\d<=126
    ·rw[if_neg (by simp;omega),if_pos ⟨h1.1,h1.2,rfl⟩]
    ·rw[if_pos (by simp;omega),if_neg (λh=>h1 ⟨h.1,h.2.1⟩)]
   ·rw[if_pos (.inl rfl),if_neg (λh=>by cases h.2.2)]
theorem yo{s:List Int}(hb:Bytes s)(hs:s.length<=maxLen):Gv N0 (s,())=some (rdR (rdS s),()):=by
 unfold Gv
 dsimp only
 cases s with
 |nil=>rfl
 |cons c r=>
  have e0:decide ((c::r:List Int)=[])=false:=rfl
  have n0:(0:Int)<=0:=by omega
  have g0:(c::r)[((0:Int)).toNat]?=some c:=rfl
  rw[e0,cond_false,if_pos n0,g0]
  simp only[if_pos n0]
  by_cases hc:c=92
  ·subst hc
   simp only[decide_true,aB,cond_false]
   refine aZ (λm x q=>∃ c:Nat,x=((),((c:Int),()))/\m+c=256/\(∀ c',c' < c->mA (92::r) c'=false/\mB (92::r) c'=false)/\q=some (rdR (rdS (92::r)),())) ?_ N0 256 _ _ (by unfold N0;omega) ⟨0,rfl,rfl,λc' h=>by omega,rfl⟩
   rintro m x q ⟨c,rfl,hm,fW,rfl⟩ k hk
   dsimp only
   rcases ap c 256 with hc|hc
   ·have w8:IntKind.wrap .u8 (c:Int)=(c:Int):=j8 hc
    rw[decide_eq_true (show(c:Int)<256 by omega),cond_true,w8,aa (Jo hc)]
    dsimp only
    refine aW ((),(mA (92::r) c,())) (λK=>?_) ?_
    ·have AN:decide (cz (92::r) 0 2=[92,110])=decide ((92::r:List Int)[1]?=some 110)/\decide (cz (92::r) 0 2=[92,116])=decide ((92::r:List Int)[1]?=some 116)/\decide (cz (92::r) 0 2=[92,114])=decide ((92::r:List Int)[1]?=some 114):=by
      unfold cz
      cases r with
      |nil=>exact⟨rfl,rfl,rfl⟩
      |cons d r2=>simp
     have hlen:∀ v:Int,decide (1<(((92::r:List Int).length:Nat):Int))=false->decide ((92::r:List Int)[1]?=some v)=false:=by
      intro v h
      cases r with
      |nil=>rfl
      |cons d r2=>simp at h;omega
     have D7:decide (1<(((92::r:List Int).length:Nat):Int))=true->(0:Int)<=0/\(0:Int)<=2/\(2:Int)<=(((92::r:List Int).length:Nat):Int):=by
      intro h
      rw[decide_eq_true_eq]at h
      omega
     have h12:∀ (v:Int) (b:Bool),v≠92->b=decide ((92::r:List Int)[1]?=some v)->decide (cz (92::r) 0 2=[92,v])=decide ((92::r:List Int)[1]?=some v)->
      (bif decide ((([92,v]:List Int).length:Int)=2)then(if(0:Int)<=1 then(match([92,v]:List Int)[((1:Int)).toNat]? with|some v12=>(bif(!decide (v12=92))then(bif decide (1<(((92::r:List Int).length:Nat):Int))then(if(0:Int)<=0/\(0:Int)<=2/\(2:Int)<=(((92::r:List Int).length:Nat):Int)then K ((),(decide (cz (92::r) 0 2=[92,v]),()))else none)else K ((),(false,())))else K ((),(false,())))|none=>none)else none)else K ((),(false,())))=K ((),(b,())):=by
      intro v b hv hb hcu
      have e1:decide ((([92,v]:List Int).length:Int)=2)=true:=rfl
      have e2:([92,v]:List Int)[((1:Int)).toNat]?=some v:=rfl
      have e3:(!decide (v=92))=true:=by simp[hv]
      rw[e1,cond_true,if_pos (show(0:Int)<=1 by omega),e2]
      dsimp only
      rw[e3,cond_true]
      cases hl:decide (1<(((92::r:List Int).length:Nat):Int))
      ·rw[cond_false,hb,hlen v hl]
      ·rw[cond_true,if_pos (D7 hl),hcu,hb]
     unfold Jm mA
     by_cases h1:c=10
     ·rw[if_pos h1]
      refine h12 110 _ (by decide) ?_ AN.1
      simp[h1]
     rw[if_neg h1]
     by_cases h2:c=9
     ·rw[if_pos h2]
      refine h12 116 _ (by decide) ?_ AN.2.1
      simp[h2]
     rw[if_neg h2]
     by_cases h3:c=13
     ·rw[if_pos h3]
      refine h12 114 _ (by decide) ?_ AN.2.2
      simp[h3]
     rw[if_neg h3]
     have e:((decide (c=10)&&decide ((92::r:List Int)[1]?=some 110))||(decide (c=9)&&decide ((92::r:List Int)[1]?=some 116))||(decide (c=13)&&decide ((92::r:List Int)[1]?=some 114)))=false:=by simp[h1,h2,h3]
     rw[e]
     split
     ·rfl
     split
     ·rfl
     ·rfl
    ·dsimp only
     cases hA:mA (92::r) c
     ·rw[cond_false]
      have w16:IntKind.wrap .i64 (Int.tdiv (c:Int) 16)=((c / 16:Nat):Int):=by
       have:Int.tdiv (c:Int) 16=((c / 16:Nat):Int):=by
        rw[show(16:Int)=((16:Nat):Int) by rfl];exact kZ c 16 |>.symm
       rw[this];exact bJ (by omega)
      have t16:Int.tmod (c:Int) 16=((c % 16:Nat):Int):=by
       rw[show(16:Int)=((16:Nat):Int) by rfl];exact oj c 16 |>.symm
      have w17:IntKind.wrap .i64 (((c / 16:Nat):Int)+1)=((c / 16+1:Nat):Int):=by rw[<-bJ (n:=c / 16+1) (by omega)];rfl
      have w18:IntKind.wrap .i64 (((c % 16:Nat):Int)+1)=((c % 16+1:Nat):Int):=by rw[<-bJ (n:=c % 16+1) (by omega)];rfl
      have w19:IntKind.wrap .i64 ((c:Int)+1)=((c+1:Nat):Int):=by rw[<-bJ (n:=c+1) (by omega)];rfl
      have c1:=AM ⟨c / 16,by omega⟩
      have c2:=AM ⟨c % 16,by omega⟩
      unfold Sb at c1 c2
      dsimp only at c1 c2
      have n16:¬((16:Int)=0):=by omega
      rw[w16,t16,w17,w18,w19,if_neg n16,if_neg n16,if_pos (⟨by omega,by omega,by simp;omega⟩),c1,if_pos (by simp),if_neg n16,if_neg n16,if_pos (⟨by omega,by omega,by simp;omega⟩),c2,if_pos (by simp)]
      refine aW ((),(mB (92::r) c,())) (λK=>?_) ?_
      ·unfold mB
       match r with
       |[]=>rfl
       |[d]=>simp
       |[d,x]=>simp
       |d::x::y::r4=>
        have l3:decide ((3:Int)<(((92::d::x::y::r4:List Int).length:Nat):Int))=true:=by
         rw[decide_eq_true_eq];simp;omega
        rw[l3,cond_true,if_pos ⟨by omega,by omega,by simp;omega⟩]
        have e:decide (cz (92::d::x::y::r4) 0 4=[92,120]++[r9 (c / 16)]++[r9 (c % 16)])=(decide (d=120)&&(decide (x=r9 (c / 16))&&decide (y=r9 (c % 16)))):=by
         rw[<-Bool.decide_and,<-Bool.decide_and,decide_eq_decide]
         unfold cz
         simp
        rw[e]
        simp
      ·dsimp only
       cases hB:mB (92::r) c
       ·rw[cond_false]
        refine hk (m-1) _ _ (by omega) ⟨c+1,rfl,by omega,λc' hc'=>?_,rfl⟩
        by_cases e:c'=c
        ·subst e;exact⟨hA,hB⟩
        ·exact fW c' (by omega)
       ·rw[cond_true,Sd hc hB]
        rfl
     ·rw[cond_true,Sc hA]
      rfl
   ·have hc2:c=256:=by omega
    subst hc2
    rw[decide_eq_false (by omega),cond_false,M0 (λc hc=>(fW c hc).1) (λc hc=>(fW c hc).2)]
    unfold Jr
    match r with
    |[]=>rfl
    |d::r2=>
     have hd:=hb d (by simp)
     have l1:decide ((1:Int)<(((92::d::r2:List Int).length:Nat):Int))=true:=by
      rw[decide_eq_true_eq];simp;omega
     have n1:(0:Int)<=1:=by omega
     have g1:(92::d::r2:List Int)[((1:Int)).toNat]?=some d:=rfl
     have g2:(92::d::r2:List Int)[1]?=some d:=rfl
     rw[g2]
     dsimp only
     refine aW ((),(decide (32<=d/\d<=126/\mL d=false),())) (λK=>?_) ?_
     ·rw[l1,cond_true,if_pos n1,g1]
      dsimp only
      by_cases h1:32<=d
      ·rw[decide_eq_true h1,cond_true]
       by_cases h2:d<=126
       ·rw[decide_eq_true h2,cond_true,aa (MZ hd)]
        cases mL d <;> simp[h1,h2]
       ·rw[decide_eq_false h2,cond_false]
        simp[h2]
      ·rw[decide_eq_false h1,cond_false]
       simp[h1]
     ·dsimp only
      by_cases h:32<=d/\d<=126/\mL d=false
      ·rw[decide_eq_true h,cond_true,if_pos h,if_pos n1,g1]
       rfl
      ·rw[decide_eq_false h,cond_false,if_neg h]
       rfl
  ·have hc2:decide (c=92)=false:=decide_eq_false hc
   rw[hc2]
   simp only[aI,cond_true,rdS,ne_eq,hc,not_false_eq_true,if_true]
   rfl
end
noncomputable section
theorem D8(f:Nat->Bool){i:Nat}(h:i<256):Gu N0 (ofB f,((i:Int),()))=some ((f i,()),()):=by
 unfold Gu
 dsimp only
 have hw:i / 64<4:=by omega
 have hl:i % 64<64:=eS _ (by omega)
 have w1:IntKind.wrap .i64 (Int.tdiv (i:Int) 64)=((i / 64:Nat):Int):=by rw[Jc];exact bJ (by omega)
 have g:=jw (l:=f) hw
 have n1:¬((64:Int)=0):=by omega
 have n2:¬((2:Int)=0):=by omega
 have n3:(0:Int)<=((i / 64:Nat):Int):=by omega
 rw[if_neg n1,w1,if_pos n3,ae,g]
 simp only[if_neg n1,if_neg n2,Jd]
 refine aZ (λm x q=>∃ j:Nat,x=((),(((bw f (i / 64) / 2 ^ j:Nat):Int),((j:Int),())))/\m+j=i % 64/\q=some ((f i,()),())) ?_ N0 (i % 64) _ _ (by unfold N0;omega) ⟨0,by simp,by omega,rfl⟩
 rintro m x q ⟨j,rfl,hm,rfl⟩ k hk
 dsimp only
 have hlt:=dX f (i / 64)
 by_cases hj:j<i % 64
 ·have w2:IntKind.wrap .u64 (Int.tdiv ((bw f (i / 64) / 2 ^ j:Nat):Int) 2)=((bw f (i / 64) / 2 ^ (j+1):Nat):Int):=by
   have e:Int.tdiv ((bw f (i / 64) / 2 ^ j:Nat):Int) 2=((bw f (i / 64) / 2 ^ j / 2:Nat):Int):=by
    rw[show(2:Int)=((2:Nat):Int) by rfl];exact kZ _ 2 |>.symm
   rw[e,nV,<-iD]
   exact wrap_u64 (nZ (ri _ _) hlt)
  have w3:IntKind.wrap .i64 ((j:Int)+1)=((j+1:Nat):Int):=by rw[<-bJ (n:=j+1) (by omega)];rfl
  rw[decide_eq_true (show(j:Int)<((i % 64:Nat):Int) by omega),cond_true,w2,w3]
  exact hk (m-1) _ _ (by omega) ⟨j+1,rfl,by omega,rfl⟩
 ·have hj2:j=i % 64:=by omega
  rw[decide_eq_false (show ¬(j:Int)<((i % 64:Nat):Int) by omega),cond_false]
  have hb:=dC f (i / 64) (i % 64)
  rw[qF,<-hj2]at hb
  have e2:64*(i / 64)+j=i:=by omega
  rw[e2,decide_eq_true (show j<64 by omega),bI]at hb
  have e:Int.tmod ((bw f (i / 64) / 2 ^ j:Nat):Int) 2=((bw f (i / 64) / 2 ^ j % 2:Nat):Int):=by
   rw[show(2:Int)=((2:Nat):Int) by rfl];exact oj _ 2 |>.symm
  have e3:decide (Int.tmod ((bw f (i / 64) / 2 ^ j:Nat):Int) 2=1)=f i:=by
   rw[<-hb,e,decide_eq_decide];omega
  rw[e3]
def bits(f:Nat->Bool):List Bool:=(List.range 256).map f
theorem qh(f:Nat->Bool):(bits f).length=256:=by simp[bits]
theorem nI(f:Nat->Bool){i:Nat}(h:i<256):(bits f)[i]?=some (f i):=by
 unfold bits
 rw[bS,dS h]
 rfl
theorem uP{f g:Nat->Bool}(h:∀ i,i<256->f i=g i):bits f=bits g:=by
 unfold bits
 exact kR λi hi=>h i (cE.1 hi)
theorem wY:List.replicate ((256:Int)).toNat false=bits (λ_=>false):=by decide +kernel
theorem AO(f:Nat->Bool){i:Nat}(h:i<256):(bits f).set i true=bits (λx=>f x||decide (x=i)):=by
 apply eC
 intro j
 rw[jG]
 by_cases hj:j<256
 ·have g1:=nI (λx=>f x||decide (x=i)) hj
  have g2:=nI f hj
  rw[g1,g2]
  by_cases e:i=j
  ·subst e
   rw[if_pos rfl,if_pos (by rw[qh];exact h)]
   simp
  ·rw[if_neg e]
   have:¬j=i:=λh=>e h.symm
   simp[this]
 ·have e1:(bits λx=>f x||decide (x=i))[j]?=none:=bn (by rw[qh];omega)
  have e2:(bits f)[j]?=none:=bn (by rw[qh];omega)
  rw[e1,e2,if_neg (by omega)]
theorem M1{f:Nat->Bool}{c:Nat}(hz:∀ x,c<=x->f x=false):bw f (c / 64)+2 ^ (c % 64)=bw (λx=>f x||decide (x=c)) (c / 64):=by
 have hi:c % 64<64:=eS _ (by omega)
 have hlt:bw f (c / 64)<2 ^ (c % 64):=by
  apply Nat.lt_pow_two_of_testBit
  intro j hj
  rw[dC,hz _ (by omega),Bool.and_false]
 have e:=Ja (l:=f) (w:=c / 64) hi
 have e2:64*(c / 64)+c % 64=c:=by omega
 rw[e2]at e
 rw[<-e,Nat.or_comm,lc]
 have:=wi hlt 1
 rw[gO]at this
 exact this
theorem M2(l:List Bool)(hl:l.length<=maxLen):Cu N0 (l,())=some ((ofB (λx=>(l[x]?).getD false),()),()):=by
 unfold Cu
 dsimp only
 have z:([0,0,0,0]:List Int)=ofB (λx=>decide (x<0)&&(l[x]?).getD false):=by
  rw[show([0,0,0,0]:List Int)=zS by rfl]
  refine(hC.2 ?_).symm
  unfold eu
  rw[cR]
  intro x _
  simp
 refine aZ (λm x q=>∃ c:Nat,x=(([0,0,0,0],(ofB (λx=>decide (x<c)&&(l[x]?).getD false),())),((c:Int),()))/\m+c=256/\q=some ((ofB (λx=>(l[x]?).getD false),()),())) ?_ N0 256 _ _ (by unfold N0;omega) ⟨0,by rw[<-z];rfl,rfl,rfl⟩
 rintro m x q ⟨c,rfl,hm,rfl⟩ k hk
 dsimp only
 refine aW (([0,0,0,0],(ofB (λx=>decide (x<c)&&(l[x]?).getD false),())),(decide (c<256)&&decide (c<l.length),())) (λK=>?_) ?_
 ·by_cases h:c<256
  ·rw[decide_eq_true (show(c:Int)<256 by omega),cond_true,decide_eq_true h,bI]
   have:decide ((c:Int)<((l.length:Nat):Int))=decide (c<l.length):=by rw[decide_eq_decide];omega
   rw[this]
  ·rw[decide_eq_false (show ¬(c:Int)<256 by omega),cond_false,decide_eq_false h,dI]
 dsimp only
 by_cases h:c<256/\c<l.length
 ·obtain⟨hc,hcl⟩:=h
  have n0:(0:Int)<=(c:Int):=by omega
  have Se:l[c]?=some l[c]:=ah hcl
  rw[decide_eq_true hc,decide_eq_true hcl,bI,cond_true,if_pos n0,ae,Se]
  dsimp only
  have w3:IntKind.wrap .i64 ((c:Int)+1)=((c+1:Nat):Int):=by rw[<-bJ (n:=c+1) (by omega)];rfl
  refine aW (([0,0,0,0],(ofB (λx=>decide (x<c+1)&&(l[x]?).getD false),())),()) (λK=>?_) ?_
  ·have On:∀ x:Nat,(decide (x<c+1)&&(l[x]?).getD false)=((decide (x<c)&&(l[x]?).getD false)||(decide (x=c)&&l[c])):=by
    intro x
    by_cases hx:x=c
    ·subst hx
     have h1:¬x<x:=by omega
     have h2:x<x+1:=by omega
     simp[h1,h2,Se]
    ·have:(x<c+1)↔(x<c):=by omega
     simp[this,hx]
   cases hb:l[c]
   ·rw[cond_false]
    have:ofB (λx=>decide (x<c+1)&&(l[x]?).getD false)=ofB (λx=>decide (x<c)&&(l[x]?).getD false):=iY λx hx=>by rw[On x,hb];simp
    rw[this]
   ·rw[cond_true]
    have hw:c / 64<4:=by omega
    have hl6:c % 64<64:=eS _ (by omega)
    have w1:IntKind.wrap .i64 (Int.tdiv (c:Int) 64)=((c / 64:Nat):Int):=by rw[Jc];exact bJ (by omega)
    have w2:IntKind.wrap .u64 (Int.tmod (c:Int) 64)=((c % 64:Nat):Int):=by rw[Jd];exact wrap_u64 (by omega)
    have n1:¬((64:Int)=0):=by omega
    have n2:¬(((c % 64:Nat):Int)<0):=by omega
    have n3:(0:Int)<=((c / 64:Nat):Int):=by omega
    have g:(ofB (λx=>decide (x<c)&&(l[x]?).getD false))[((c / 64:Nat):Int).toNat]?=some ((bw (λx=>decide (x<c)&&(l[x]?).getD false) (c / 64):Nat):Int):=by rw[ae];exact jw hw
    rw[if_neg n1,if_neg n1,w1,if_pos n3,g]
    simp only[if_neg n1,w2,if_neg n2,if_pos n3,g,yj hl6]
    have hab:=M1 (f:=λx=>decide (x<c)&&(l[x]?).getD false) (c:=c) (λx hx=>by
     have:¬x<c:=by omega
     simp[this])
    have hlt:=dX (λx=>(decide (x<c)&&(l[x]?).getD false)||decide (x=c)) (c / 64)
    have w4:IntKind.wrap .u64 (((bw (λx=>decide (x<c)&&(l[x]?).getD false) (c / 64):Nat):Int)+((2 ^ (c % 64):Nat):Int))=((bw (λx=>(decide (x<c)&&(l[x]?).getD false)||decide (x=c)) (c / 64):Nat):Int):=by
     rw[<-hab,<-Int.natCast_add]
     exact wrap_u64 (by rw[hab];exact hlt)
    rw[w4,ae]
    have dB:(ofB (λx=>decide (x<c)&&(l[x]?).getD false)).set (c / 64) ((bw (λx=>(decide (x<c)&&(l[x]?).getD false)||decide (x=c)) (c / 64):Nat):Int)=ofB (λx=>(decide (x<c)&&(l[x]?).getD false)||decide (x=c)):=
     yi hw rfl (λv j hv hne hj=>by
      have:¬(64*v+j=c):=by omega
      simp[this])
    rw[dB]
    have:ofB (λx=>decide (x<c+1)&&(l[x]?).getD false)=ofB (λx=>(decide (x<c)&&(l[x]?).getD false)||decide (x=c)):=iY λx hx=>by rw[On x,hb];simp
    rw[this]
  ·dsimp only
   rw[w3]
   exact hk (m-1) _ _ (by omega) ⟨c+1,rfl,by omega,rfl⟩
 ·have hf:(decide (c<256)&&decide (c<l.length))=false:=by
   rw[ir,decide_eq_false_iff_not,decide_eq_false_iff_not]
   omega
  rw[hf,cond_false]
  have:ofB (λx=>decide (x<c)&&(l[x]?).getD false)=ofB (λx=>(l[x]?).getD false):=iY λx hx=>by
   by_cases hxc:x<c
   ·simp[hxc]
   ·have:l[x]?=none:=bn (by omega)
    simp[this]
  rw[this]
theorem sa(f:Nat->Bool):Cu N0 (bits f,())=some ((ofB f,()),()):=by
 rw[M2 _ (by rw[qh];simp[maxLen])]
 have:ofB (λx=>((bits f)[x]?).getD false)=ofB f:=iY λx hx=>by rw[nI _ hx];rfl
 rw[this]
theorem AP(f g:Nat->Bool):IR N0 (3,(ofB f,(ofB g,())))=some ((ofB (λx=>!f x),()),()):=by
 unfold IR
 dsimp only
 refine aZ (λm x q=>∃ c:Nat,x=(([0,0,0,0],()),((List.range c).map (λx=>!f x),((c:Int),())))/\m+c=256/\q=some ((ofB (λx=>!f x),()),())) ?_ N0 256 _ _ (by unfold N0;omega) ⟨0,rfl,rfl,rfl⟩
 rintro m x q ⟨c,rfl,hm,rfl⟩ k hk
 dsimp only
 rcases ap c 256 with hc|hc
 ·have w3:IntKind.wrap .i64 ((c:Int)+1)=((c+1:Nat):Int):=by rw[<-bJ (n:=c+1) (by omega)];rfl
  rw[decide_eq_true (show(c:Int)<256 by omega),cond_true,aa (D8 f hc)]
  dsimp only
  rw[aa (D8 g hc)]
  dsimp only
  have f1:(((List.range c).map (λx=>!f x)).length+([!f c]:List Bool).length)*1<=140737488355328:=by simp;omega
  have f2:((List.range c).map (λx=>!f x)).length+([!f c]:List Bool).length<=9223372036854775807:=by simp;omega
  simp only[aJ,show decide ((3:Int)=0)=false from rfl,show decide ((3:Int)=1)=false from rfl,show decide ((3:Int)=2)=false from rfl,cond_false]
  rw[if_pos f1,if_pos f2,w3]
  refine hk (m-1) _ _ (by omega) ⟨c+1,?_,by omega,rfl⟩
  rw[kV,eD]
  rfl
 ·have hc2:c=256:=by omega
  subst hc2
  rw[decide_eq_false (by omega),cond_false]
  exact aa (sa _) _
end
noncomputable section
theorem qi{A R:Type}{P:Option R->Prop}{J:A->Option R}{body:(A->Option R)->Option R}(h:∀ K,(∀ x,K x=J x)->P (body K)):P (aw J body):=h J λ_=>rfl
def OkQ(o:Option (Rx×Nat))(z:Option ((List Pc×(Int×Unit))×Unit)):Prop:=
 match o with
 |some (t,j)=>z=some ((t.post,((j:Int),())),())
 |none=>∃ k:Int,z=some (([],(k,())),())
theorem uQ(s:List Int){i:Nat}(hi:i<=s.length):((0:Int)<=(i:Int)/\(i:Int)<=((s.length:Nat):Int)/\((s.length:Nat):Int)<=((s.length:Nat):Int))/\cz s (i:Int) ((s.length:Nat):Int)=s.drop i:=by
 refine⟨⟨by omega,by omega,by omega⟩,?_⟩
 unfold cz
 simp only[ae]
 exact bR (by simp)
theorem uR{s:List Int}(hs:s.length<=maxLen)(i:Nat):(s.drop i).length<=maxLen:=by rw[bB];omega
theorem M3{s:List Int}(hb:Bytes s)(hs0:s.length<=1600){i:Nat}(hi:i<=s.length):OkQ (brS s i) (MD N0 (s,((i:Int),()))):=by
 have hs:s.length<=maxLen:=by unfold maxLen;omega
 rw[yl]
 unfold MD
 dsimp only
 rw[if_pos (show(0:Int)<=256/\(256:Int)<=256 by omega),if_pos (show((256:Int)).toNat*1<=140737488355328 by decide),wY]
 refine eo (P:=OkQ _) ((bits (λ_=>false),()),(fm s i 94,())) (λK=>?_) ?_
 ·unfold fm
  rcases ap i s.length with h|h
  ·have n0:(0:Int)<=(i:Int):=by omega
   rw[decide_eq_true (show(i:Int)<((s.length:Nat):Int) by omega),cond_true,if_pos n0,ae,hJ h,decide_eq_true h,bI]
  ·rw[decide_eq_false (show ¬(i:Int)<((s.length:Nat):Int) by omega),cond_false,decide_eq_false (show ¬i<s.length by omega),dI]
 dsimp only
 generalize hnt:fm s i 94=nt
 have hlt:nt=true->i<s.length:=λh=>by
  rw[<-hnt]at h
  unfold fm at h
  simp at h
  exact h.1
 have hi1:(if nt=true then i+1 else i)<=s.length:=by
  split
  ·rename_i h;exact hlt h
  ·exact hi
 refine eo (P:=OkQ _) ((bits (λ_=>false),()),(((if nt=true then i+1 else i:Nat):Int),())) (λK=>?_) ?_
 ·cases nt
  ·rfl
  ·rw[cond_true,if_pos rfl,br (hlt rfl) hs]
 dsimp only
 generalize (if nt=true then i+1 else i)=i1 at hi1 |-
 generalize cu:brL s s.length.succ i1 (λ_=>false)=res
 refine ew (λm x=>∃ (i:Nat) (f:Nat->Bool) (cm:Nat),x=((bits f,()),((i:Int),()))/\i<=s.length/\s.length-i<cm/\m=s.length-i/\brL s cm i f=res) (OkQ (nH s nt res)) ?_ N0 (s.length-i1) _ (by have:=j7 hs;omega) ⟨i1,_,s.length.succ,rfl,hi1,by omega,rfl,cu⟩
 rintro m x ⟨i,f,cm,rfl,hi,hf,hm,hr⟩ k hk
 obtain⟨cm,rfl⟩:∃ q,cm=q+1:=⟨cm-1,by omega⟩
 simp only[brL]at hr
 dsimp only
 have n0:(0:Int)<=(i:Int):=by omega
 refine eo (P:=OkQ _) ((bits f,()),(decide (¬(s.length<=i\/ch s i=93)),())) (λK=>?_) ?_
 ·rcases ap i s.length with h|h
  ·have e:decide (¬(s.length<=i\/ch s i=93))=!decide (ch s i=93):=by
    have:¬s.length<=i:=by omega
    simp[this]
   rw[decide_eq_true (show(i:Int)<((s.length:Nat):Int) by omega),cond_true,if_pos n0,ae,hJ h,e]
  ·have e:decide (¬(s.length<=i\/ch s i=93))=false:=by simp[h]
   rw[decide_eq_false (show ¬(i:Int)<((s.length:Nat):Int) by omega),cond_false,e]
 dsimp only
 by_cases mn:s.length<=i\/ch s i=93
 ·-- the end
  rw[if_pos mn]at hr
  rw[decide_eq_false (λh=>h mn),cond_false,aa (sa f)]
  dsimp only
  subst hr
  unfold nH
  dsimp only
  generalize hg:(if nt=true then λx=>!f x else f)=g
  refine eo (P:=OkQ _) ((ofB g,()),()) (λK=>?_) ?_
  ·cases nt
   ·rw[cond_false]
    have:f=g:=hg
    rw[this]
   ·rw[cond_true,aa (AP f f)]
    have:(λx=>!f x)=g:=hg
    rw[this]
  dsimp only
  refine eo (P:=OkQ _) ((ofB g,()),(decide (s.length<=i\/eu g=true),())) (λK=>?_) ?_
  ·rcases ap i s.length with h|h
   ·have e:decide (s.length<=i\/eu g=true)=decide (ofB g=[0,0,0,0]):=by
     have:¬s.length<=i:=by omega
     rw[decide_eq_decide,show([0,0,0,0]:List Int)=zS by rfl,hC]
     simp[this]
    rw[decide_eq_false (show ¬((s.length:Nat):Int)<=(i:Int) by omega),cond_false,e]
   ·rw[decide_eq_true (show((s.length:Nat):Int)<=(i:Int) by omega),cond_true,decide_eq_true (.inl h)]
  dsimp only
  by_cases hem:s.length<=i\/eu g=true
  ·rw[if_pos hem,decide_eq_true hem,cond_true]
   exact⟨_,rfl⟩
  ·rw[if_neg hem,decide_eq_false hem,cond_false,br (show i<s.length by omega) hs]
   rfl
 ·rw[if_neg mn]at hr
  have hlt:i<s.length:=by omega
  obtain⟨hc,rW⟩:=uQ s hi
  rw[decide_eq_true mn,cond_true,if_pos hc,rW,aa (yo (hb.drop i) (uR hs i))]
  dsimp only
  cases hrd:rdS (s.drop i)with
  |none=>
   have:res=none:=by
    rw[hrd]at hr
    split at hr
    ·exact hr.symm
    ·exact hr.symm
   subst this
   exact⟨_,rfl⟩
  |some p=>
   obtain⟨a,n⟩:=p
   rw[hrd]at hr
   obtain⟨ha,hn1,hn2⟩:=kL (hb.drop i) hrd
   rw[bB]at hn2
   dsimp only[rdR]
   dsimp only at hr
   refine eo (P:=OkQ _) ((bits f,()),(decide (ch s i∈([94,45,47,34]:List Int)),())) (λK=>?_) ?_
   ·rw[aB,cond_false,if_pos n0,ae,hJ hlt]
    dsimp only
    rw[aa (qg _ (by simp[maxLen]) _)]
   dsimp only
   by_cases hin:ch s i∈([94,45,47,34]:List Int)
   ·rw[if_pos hin]at hr
    rw[decide_eq_true hin,cond_true]
    subst hr
    exact⟨_,rfl⟩
   rw[if_neg hin]at hr
   rw[decide_eq_false hin,cond_false]
   have w1:IntKind.wrap .i64 ((i:Int)+(n:Int))=((i+n:Nat):Int):=by
    rw[<-bJ (n:=i+n) (by omega)];rfl
   have w2:IntKind.wrap .i64 (((i+n:Nat):Int)+1)=((i+n+1:Nat):Int):=by
    rw[<-bJ (n:=i+n+1) (by omega)];rfl
   simp only[w1]
   refine eo (P:=OkQ _) ((bits f,()),(fm s (i+n) 45,())) (λK=>?_) ?_
   ·unfold fm
    rcases ap (i+n) s.length with h|h
    ·have n0:(0:Int)<=((i+n:Nat):Int):=by omega
     rw[decide_eq_true (show((i+n:Nat):Int)<((s.length:Nat):Int) by omega),cond_true,if_pos n0,ae,hJ h,decide_eq_true h,bI]
    ·rw[decide_eq_false (show ¬((i+n:Nat):Int)<((s.length:Nat):Int) by omega),cond_false,decide_eq_false (show ¬i+n<s.length by omega),dI]
   dsimp only
   simp only[w2]
   refine qi (P:=OkQ _) λK hK=>?_
   -- Li goes on with a range
   have go:∀ (j:Nat) (b:Int),j<=s.length->i<j->(0<=b/\b<=255)->brL s cm j (λx=>f x||uM a b x)=res->
    OkQ (nH s nt res) (K ((bits f,()),((j:Int),(b,())))):=by
    intro j b hj hij hbb cu
    rw[hK]
    dsimp only
    have wa:IntKind.wrap .i64 a=a:=bD (by omega) (by omega)
    have wb:IntKind.wrap .i64 b=b:=bD (by omega) (by omega)
    rw[wa,wb]
    have e0:bits f=bits (λx=>f x||(decide (a<=(x:Int))&&decide ((x:Int)<((a.toNat:Nat):Int)))):=uP λx hx=>by
     rw[dm ha.1]
     by_cases h:a<=(x:Int)
     ·have:¬(x:Int)<a:=by omega
      simp[this]
     ·simp[h]
    refine ew (λm x=>∃ c:Nat,x=((bits (λx=>f x||(decide (a<=(x:Int))&&decide ((x:Int)<(c:Int)))),()),((c:Int),()))/\m+c=256/\a<=(c:Int)/\(a<=b->(c:Int)<=b+1)/\(b<a->(c:Int)=a)) (OkQ (nH s nt res)) ?_ N0 (256-a.toNat) _ (by unfold N0;omega) ⟨a.toNat,by rw[<-e0,dm ha.1],by omega,by omega,by omega,by omega⟩
    rintro m x ⟨c,rfl,hm,h1,h2,h3⟩ k2 hk2
    dsimp only
    by_cases hcb:(c:Int)<=b
    ·have hc:c<256:=by omega
     have n1:(0:Int)<=(c:Int):=by omega
     have w3:IntKind.wrap .i64 ((c:Int)+1)=((c+1:Nat):Int):=by rw[<-bJ (n:=c+1) (by omega)];rfl
     rw[decide_eq_true hcb,cond_true,if_pos n1,ae,nI _ hc]
     dsimp only
     rw[if_pos n1]
     rw[AO _ hc,w3]
     refine hk2 (m-1) _ (by omega) ⟨c+1,?_,by omega,by omega,by omega,by omega⟩
     have:bits (λx=>(f x||(decide (a<=(x:Int))&&decide ((x:Int)<(c:Int))))||decide (x=c))=bits (λx=>f x||(decide (a<=(x:Int))&&decide ((x:Int)<((c+1:Nat):Int)))):=uP λx hx=>by
      have e3:decide ((x:Int)<((c+1:Nat):Int))=(decide ((x:Int)<(c:Int))||decide (x=c)):=by rw[<-Bool.decide_or,decide_eq_decide];omega
      rw[e3]
      by_cases hax:a<=(x:Int)
      ·simp[hax,Bool.or_assoc]
      ·have:¬x=c:=by omega
       simp[hax,this]
     rw[this]
    ·rw[decide_eq_false hcb,cond_false]
     refine hk (s.length-j) _ (by omega) ⟨j,_,cm,?_,hj,by omega,rfl,cu⟩
     have:bits (λx=>f x||(decide (a<=(x:Int))&&decide ((x:Int)<(c:Int))))=bits (λx=>f x||uM a b x):=uP λx hx=>by
      unfold uM
      rcases Int.lt_or_le b a with hl|hl
      ·have e:=h3 hl
       by_cases hax:a<=(x:Int)
       ·have q1:¬((x:Int)<=b):=by omega
        have q2:¬((x:Int)<(c:Int)):=by omega
        simp[q1,q2]
       ·simp[hax]
      ·have e:=h2 hl
       have:((x:Int)<(c:Int))↔((x:Int)<=b):=by omega
       simp[this]
     rw[this]
   clear hK
   by_cases hd:i+n<s.length/\ch s (i+n)=45
   ·rw[if_pos hd]at hr
    have he:fm s (i+n) 45=true:=by unfold fm;simp[hd.1,hd.2]
    rw[he,cond_true]
    refine eo (P:=OkQ _) ((bits f,()),(decide (s.length<=i+n+1\/ch s (i+n+1)∈([93,94,45,47,34]:List Int)),())) (λK=>?_) ?_
    ·rcases ap (i+n+1) s.length with h|h
     ·have n0:(0:Int)<=((i+n+1:Nat):Int):=by omega
      rw[decide_eq_false (show ¬((s.length:Nat):Int)<=((i+n+1:Nat):Int) by omega),cond_false,if_pos n0,ae,hJ h]
      dsimp only
      rw[aa (qg _ (by simp[maxLen]) _)]
      have e:decide (s.length<=i+n+1\/ch s (i+n+1)∈([93,94,45,47,34]:List Int))=decide (ch s (i+n+1)∈([93,94,45,47,34]:List Int)):=by
       have:¬s.length<=i+n+1:=by omega
       rw[decide_eq_decide];exact⟨λh=>h.resolve_left this,.inr⟩
      rw[e]
     ·rw[decide_eq_true (show((s.length:Nat):Int)<=((i+n+1:Nat):Int) by omega),cond_true,decide_eq_true (.inl h)]
    dsimp only
    by_cases h4:s.length<=i+n+1\/ch s (i+n+1)∈([93,94,45,47,34]:List Int)
    ·rw[if_pos h4]at hr
     rw[decide_eq_true h4,cond_true]
     subst hr
     exact⟨_,rfl⟩
    rw[if_neg h4]at hr
    obtain⟨hc2,AN⟩:=uQ s (show i+n+1<=s.length by omega)
    rw[decide_eq_false h4,cond_false,if_pos hc2,AN,aa (yo (hb.drop _) (uR hs _))]
    dsimp only
    cases AK:rdS (s.drop (i+n+1))with
    |none=>
     rw[AK]at hr
     dsimp only at hr
     subst hr
     exact⟨_,rfl⟩
    |some p2=>
     obtain⟨b,n2⟩:=p2
     rw[AK]at hr
     dsimp only at hr
     dsimp only[rdR]
     obtain⟨hbb,hn3,hn4⟩:=kL (hb.drop _) AK
     rw[bB]at hn4
     have w3:IntKind.wrap .i64 (((i+n+1:Nat):Int)+(n2:Int))=((i+n+1+n2:Nat):Int):=by
      rw[<-bJ (n:=i+n+1+n2) (by omega)];rfl
     simp only[w3]
     refine eo (P:=OkQ _) ((bits f,()),(decide (b<a),())) (λK=>?_) ?_
     ·rw[aB,cond_false]
      rfl
     dsimp only
     by_cases hba:b<a
     ·rw[if_pos hba]at hr
      rw[decide_eq_true hba,cond_true]
      subst hr
      exact⟨_,rfl⟩
     ·rw[if_neg hba]at hr
      rw[decide_eq_false hba,cond_false]
      exact go (i+n+1+n2) b (by omega) (by omega) hbb hr
   ·rw[if_neg hd]at hr
    have he:fm s (i+n) 45=false:=by
     unfold fm
     rw[ir,decide_eq_false_iff_not,decide_eq_false_iff_not]
     by_cases h:i+n<s.length
     ·exact .inr λh2=>hd ⟨h,h2⟩
     ·exact .inl h
    rw[he,cond_false]
    exact go (i+n) a (by omega) (by omega) ha hr
end
noncomputable section
abbrev RfF:=(List Int×(Int×(Int×Unit)))->Option ((List Pc×(Int×Unit))×Unit)
theorem iZ(t:Rx):List.isEmpty t.post=false:=by
 have h1:=t.aV
 have h2:=t.bL
 cases hp:t.post with
 |nil=>rw[hp]at h1;simp at h1;omega
 |cons a b=>rfl
theorem M4{i n:Nat}(h:i+n<9223372036854775808):IntKind.wrap .i64 ((i:Int)+(n:Int))=((i+n:Nat):Int):=by rw[<-bJ h];rfl
theorem dh{i:Nat}(h:i+1<9223372036854775808):IntKind.wrap .i64 ((i:Int)+1)=((i+1:Nat):Int):=by rw[<-bJ h];rfl
theorem M5{s:List Int}(hb:Bytes s)(hs:s.length<=1600){q2 q3 q4 q5:RfF}{inner:Nat->Nat->Option (Rx×Nat)}{i d:Nat}(hd:d<=i)
 (hin:i<s.length->OkQ (inner (i+1) (d+1)) (q2 (s,(((i+1:Nat):Int),(((d+1:Nat):Int),()))))) (cu:kn s (i+1) (inner (i+1) (d+1))):
 OkQ (mQ inner s i d) (AB N0 q2 q3 q4 q5 (s,((i:Int),((d:Int),())))):=by
 have hsm:s.length<=maxLen:=by unfold maxLen;omega
 unfold AB mQ
 dsimp only
 have n0:(0:Int)<=(i:Int):=by omega
 refine eo (P:=OkQ _) ((),(decide (s.length<=i\/ch s i∈([124,41,42,43,63,93,47,34]:List Int)),())) (λK=>?_) ?_
 ·rcases ap i s.length with h|h
  ·rw[decide_eq_false (show ¬((s.length:Nat):Int)<=(i:Int) by omega),cond_false,if_pos n0,ae,hJ h]
   dsimp only
   rw[aa (qg _ (by simp[maxLen]) _)]
   have e:decide (s.length<=i\/ch s i∈([124,41,42,43,63,93,47,34]:List Int))=decide (ch s i∈([124,41,42,43,63,93,47,34]:List Int)):=by
    have:¬s.length<=i:=by omega
    rw[decide_eq_decide];exact⟨λh=>h.resolve_left this,.inr⟩
   rw[e]
  ·rw[decide_eq_true (show((s.length:Nat):Int)<=(i:Int) by omega),cond_true,decide_eq_true (.inl h)]
 dsimp only
 by_cases mn:s.length<=i\/ch s i∈([124,41,42,43,63,93,47,34]:List Int)
 ·rw[if_pos mn,decide_eq_true mn,cond_true]
  exact⟨_,rfl⟩
 rw[if_neg mn,decide_eq_false mn,cond_false]
 have hlt:i<s.length:=by omega
 have w1:IntKind.wrap .i64 ((i:Int)+1)=((i+1:Nat):Int):=dh (by omega)
 simp only[if_pos n0,ae,hJ hlt,w1]
 have hz:([0,0,0,0]:List Int)=ofB (λ_=>false):=by
  rw[show([0,0,0,0]:List Int)=zS by rfl]
  exact(hC.2 (by unfold eu;rw[cR];intro x _;rfl)).symm
 by_cases h46:ch s i=46
 ·rw[decide_eq_true h46,cond_true,if_pos h46,hz,aa (AP _ _)]
  rfl
 rw[decide_eq_false h46,cond_false,if_neg h46]
 by_cases h126:ch s i=126
 ·rw[decide_eq_true h126,cond_true,if_pos h126]
  rfl
 rw[decide_eq_false h126,cond_false,if_neg h126]
 by_cases h91:ch s i=91
 ·rw[decide_eq_true h91,cond_true,if_pos h91]
  have hq:=M3 hb hs (show i+1<=s.length by omega)
  unfold OkQ at hq
  cases ho:brS s (i+1)with
  |none=>
   rw[ho]at hq
   obtain⟨k,hq⟩:=hq
   rw[aa hq]
   exact⟨_,rfl⟩
  |some p=>
   obtain⟨t,j⟩:=p
   rw[ho]at hq
   dsimp only at hq
   rw[aa hq]
   rfl
 rw[decide_eq_false h91,cond_false,if_neg h91]
 by_cases h40:ch s i=40
 ·rw[decide_eq_true h40,cond_true,if_pos h40]
  by_cases h99:99<=d
  ·rw[if_pos h99,decide_eq_true (show(99:Int)<=(d:Int) by omega),cond_true]
   exact⟨_,rfl⟩
  rw[if_neg h99,decide_eq_false (show ¬(99:Int)<=(d:Int) by omega),cond_false]
  have wd:IntKind.wrap .i64 ((d:Int)+1)=((d+1:Nat):Int):=dh (by omega)
  rw[wd]
  have hq:=hin hlt
  unfold OkQ at hq
  cases ho:inner (i+1) (d+1)with
  |none=>
   rw[ho]at hq
   obtain⟨k,hq⟩:=hq
   rw[aa hq]
   exact⟨_,rfl⟩
  |some p=>
   obtain⟨t,j⟩:=p
   rw[ho]at hq
   dsimp only at hq
   obtain⟨r1,r2,r3,r4⟩:=cu t j ho
   rw[aa hq]
   dsimp only
   refine eo (P:=OkQ _) ((),(decide (¬(j<s.length/\ch s j=41)),())) (λK=>?_) ?_
   ·rw[iZ t,cond_false]
    rcases ap j s.length with h|h
    ·have n1:(0:Int)<=(j:Int):=by omega
     have e:decide (¬(j<s.length/\ch s j=41))=!decide (ch s j=41):=by simp[h]
     rw[decide_eq_false (show ¬((s.length:Nat):Int)<=(j:Int) by omega),cond_false,if_pos n1,ae,hJ h,e]
    ·have e:decide (¬(j<s.length/\ch s j=41))=true:=by simp;omega
     rw[decide_eq_true (show((s.length:Nat):Int)<=(j:Int) by omega),cond_true,e]
   dsimp only
   by_cases hj:j<s.length/\ch s j=41
   ·rw[if_pos hj,decide_eq_false (λh=>h hj),cond_false,dh (by omega)]
    rfl
   ·rw[if_neg hj,decide_eq_true hj,cond_true]
    exact⟨_,rfl⟩
 rw[decide_eq_false h40,cond_false,if_neg h40]
 obtain⟨hc,rW⟩:=uQ s (show i<=s.length by omega)
 rw[if_pos hc,rW,aa (yo (hb.drop i) (uR hsm i))]
 dsimp only
 cases hrd:rdS (s.drop i)with
 |none=>exact⟨_,rfl⟩
 |some p=>
  obtain⟨c,n⟩:=p
  obtain⟨hcb,hn1,hn2⟩:=kL (hb.drop i) hrd
  rw[bB]at hn2
  dsimp only[rdR]
  obtain⟨c,rfl⟩:∃ q:Nat,c=(q:Int):=⟨c.toNat,by omega⟩
  have n1:(0:Int)<=(c:Int):=by omega
  have Oo:c<256:=by omega
  rw[aB,cond_false,if_pos (show(0:Int)<=256/\(256:Int)<=256 by omega),if_pos (show((256:Int)).toNat*1<=140737488355328 by decide)]
  simp only[if_pos n1,wY,ae,nI _ Oo,AO _ Oo]
  rw[aa (sa _)]
  simp only[M4 (show i+n<9223372036854775808 by omega)]
  have e:ofB (λx=>false||decide (x=c))=ofB (rT (c:Int)):=iY λx hx=>by
   unfold rT
   rw[cT,decide_eq_decide];omega
  rw[e]
  rfl
theorem CD{s:List Int}(hb:Bytes s)(hs:s.length<=1600){q2 q3 q4 q5:RfF}{inner:Nat->Nat->Option (Rx×Nat)}{i d:Nat}
 (ez:OkQ (mQ inner s i d) (q5 (s,((i:Int),((d:Int),()))))) (cu:kn s i (mQ inner s i d)):
 OkQ (kK inner s i d) (AA N0 q2 q3 q4 q5 (s,((i:Int),((d:Int),())))):=by
 have hsm:s.length<=maxLen:=by unfold maxLen;omega
 unfold AA
 dsimp only
 unfold kK
 unfold OkQ at ez
 cases ho:mQ inner s i d with
 |none=>
  rw[ho]at ez
  obtain⟨k0,hq⟩:=ez
  rw[aa hq]
  refine ew (λm x=>x=((),(k0,([],())))) (OkQ none) ?_ N0 0 _ (by unfold N0;omega) rfl
  rintro m x rfl k hk
  exact⟨_,rfl⟩
 |some p=>
  obtain⟨t0,j0⟩:=p
  rw[ho]at ez
  dsimp only at ez
  have hr0:=cu t0 j0 ho
  rw[aa ez]
  dsimp only
  generalize hrs:rU s s.length.succ j0 t0=res
  refine ew (λm x=>∃ (j:Nat) (t:Rx) (cm:Nat),x=((),((j:Int),(t.post,())))/\Res s i t j/\s.length-j<cm/\m=s.length-j/\rU s cm j t=res) (OkQ res) ?_ N0 (s.length-j0) _ (by unfold N0;omega) ⟨j0,t0,_,rfl,hr0,by omega,rfl,hrs⟩
  rintro m x ⟨j,t,cm,rfl,hr,hf,hm,hl⟩ k hk
  obtain⟨cm,rfl⟩:∃ q,cm=q+1:=⟨cm-1,by omega⟩
  simp only[rU]at hl
  dsimp only
  have n1:(0:Int)<=(j:Int):=by omega
  refine eo (P:=OkQ _) ((),(decide (j<s.length/\ch s j∈([42,43,63]:List Int)),())) (λK=>?_) ?_
  ·rw[iZ t,aI,cond_true]
   rcases ap j s.length with h|h
   ·rw[decide_eq_true (show(j:Int)<((s.length:Nat):Int) by omega),cond_true,if_pos n1,ae,hJ h]
    dsimp only
    rw[aa (qg _ (by simp[maxLen]) _)]
    have e:decide (j<s.length/\ch s j∈([42,43,63]:List Int))=decide (ch s j∈([42,43,63]:List Int)):=by
     rw[decide_eq_decide];exact⟨λh=>h.2,λh2=>⟨h,h2⟩⟩
    rw[e]
   ·have e:decide (j<s.length/\ch s j∈([42,43,63]:List Int))=false:=decide_eq_false (λh2=>by omega)
    rw[decide_eq_false (show ¬(j:Int)<((s.length:Nat):Int) by omega),cond_false,e]
  dsimp only
  by_cases hc:j<s.length/\ch s j∈([42,43,63]:List Int)
  ·rw[if_pos hc]at hl
   obtain⟨g1,g2,g3,g4⟩:=hr
   have tl:=t.aV
   rw[decide_eq_true hc,cond_true,if_pos n1,ae,hJ hc.1]
   dsimp only
   refine eo (P:=OkQ _) ((),((if ch s j=43 then 5 else 4),())) (λK=>?_) ?_
   ·by_cases h:ch s j=43
    ·rw[decide_eq_true h,cond_true,if_pos h]
    ·rw[decide_eq_false h,cond_false,if_neg h]
   dsimp only
   rw[if_pos n1]
   refine eo (P:=OkQ _) ((),(iM (ch s j),())) (λK=>?_) ?_
   ·unfold iM
    by_cases h:ch s j=63
    ·rw[decide_eq_true h,cond_true,h];rfl
    ·rw[decide_eq_false h,cond_false]
     have h3:ch s j=42\/ch s j=43:=by
      have:=hc.2
      simp[h]at this
      exact this
     rcases h3 with h3|h3 <;> rw[h3] <;> rfl
   dsimp only
   have c1:(([]:List Pc).length+t.post.length)*40<=140737488355328:=by simp;omega
   have c2:([]:List Pc).length+t.post.length<=9223372036854775807:=by simp;omega
   have c3:((([]:List Pc)++t.post).length+([(iM (ch s j),[0,0,0,0])]:List Pc).length)*40<=140737488355328:=by simp;omega
   have c4:(([]:List Pc)++t.post).length+([(iM (ch s j),[0,0,0,0])]:List Pc).length<=9223372036854775807:=by simp;omega
   have e:([]:List Pc)++t.post++[(iM (ch s j),[0,0,0,0])]=(Rx.rep (iM (ch s j)) t).post:=rfl
   rw[if_pos c1,if_pos c2,if_pos c3,if_pos c4,e,iZ,cond_false,dh (by omega)]
   exact hk (s.length-(j+1)) _ (by omega) ⟨j+1,_,cm,rfl,⟨by omega,by omega,by simp only[Rx.len];omega,rX _,g4⟩,by omega,rfl,hl⟩
  ·rw[if_neg hc]at hl
   rw[decide_eq_false hc,cond_false]
   subst hl
   rfl
end
noncomputable section
theorem M6{s:List Int}(hb:Bytes s)(hs:s.length<=1600){q2 q3 q4 q5:RfF}{inner:Nat->Nat->Option (Rx×Nat)}{i d:Nat}(hi:i<=s.length)
 (bG:∀ j,i<=j->j<=s.length->OkQ (kK inner s j d) (q4 (s,((j:Int),((d:Int),()))))) (cu:∀ j,i<=j->kn s j (kK inner s j d)):
 OkQ (lJ inner s i d) (Az N0 q2 q3 q4 q5 (s,((i:Int),((d:Int),())))):=by
 have hsm:s.length<=maxLen:=by unfold maxLen;omega
 unfold Az
 dsimp only
 unfold lJ
 have ez:=bG i (aq _) hi
 unfold OkQ at ez
 cases ho:kK inner s i d with
 |none=>
  rw[ho]at ez
  obtain⟨k0,hq⟩:=ez
  rw[aa hq]
  refine ew (λm x=>x=((),(k0,([],())))) (OkQ none) ?_ N0 0 _ (by unfold N0;omega) rfl
  rintro m x rfl k hk
  exact⟨_,rfl⟩
 |some p=>
  obtain⟨t0,j0⟩:=p
  rw[ho]at ez
  dsimp only at ez
  have hr0:=cu i (aq _) t0 j0 ho
  rw[aa ez]
  dsimp only
  generalize hrs:tb inner s d s.length.succ j0 t0=res
  refine ew (λm x=>∃ (j:Nat) (t:Rx) (cm:Nat),x=((),((j:Int),(t.post,())))/\Res s i t j/\s.length-j<cm/\m=s.length-j/\tb inner s d cm j t=res) (OkQ res) ?_ N0 (s.length-j0) _ (by unfold N0;omega) ⟨j0,t0,_,rfl,hr0,by omega,rfl,hrs⟩
  rintro m x ⟨j,t,cm,rfl,hr,hf,hm,hl⟩ k hk
  obtain⟨cm,rfl⟩:∃ q,cm=q+1:=⟨cm-1,by omega⟩
  simp only[tb]at hl
  dsimp only
  have n1:(0:Int)<=(j:Int):=by omega
  refine eo (P:=OkQ _) ((),(decide (j<s.length/\ch s j∉([124,41]:List Int)),())) (λK=>?_) ?_
  ·rw[iZ t,aI,cond_true]
   rcases ap j s.length with h|h
   ·rw[decide_eq_true (show(j:Int)<((s.length:Nat):Int) by omega),cond_true,if_pos n1,ae,hJ h]
    dsimp only
    rw[aa (qg _ (by simp[maxLen]) _)]
    have e:decide (j<s.length/\ch s j∉([124,41]:List Int))=!decide (ch s j∈([124,41]:List Int)):=by
     rw[<-decide_not,decide_eq_decide];exact⟨λh=>h.2,λh2=>⟨h,h2⟩⟩
    rw[e]
   ·have e:decide (j<s.length/\ch s j∉([124,41]:List Int))=false:=decide_eq_false (λh2=>by omega)
    rw[decide_eq_false (show ¬(j:Int)<((s.length:Nat):Int) by omega),cond_false,e]
  dsimp only
  by_cases hc:j<s.length/\ch s j∉([124,41]:List Int)
  ·rw[if_pos hc]at hl
   obtain⟨g1,g2,g3,g4⟩:=hr
   have tl:=t.aV
   rw[decide_eq_true hc,cond_true]
   have hq:=bG j (by omega) (by omega)
   unfold OkQ at hq
   cases h2:kK inner s j d with
   |none=>
    rw[h2]at hq hl
    obtain⟨k0,hq⟩:=hq
    rw[aa hq]
    subst hl
    exact⟨_,rfl⟩
   |some p=>
    obtain⟨t2,j2⟩:=p
    rw[h2]at hq hl
    dsimp only at hq hl
    obtain⟨f1,f2,f3,f4⟩:=cu j (by omega) t2 j2 h2
    have tl2:=t2.aV
    rw[aa hq]
    dsimp only
    have c1:(([]:List Pc).length+t.post.length)*40<=140737488355328:=by simp;omega
    have c2:([]:List Pc).length+t.post.length<=9223372036854775807:=by simp;omega
    have c3:((([]:List Pc)++t.post).length+t2.post.length)*40<=140737488355328:=by simp;omega
    have c4:(([]:List Pc)++t.post).length+t2.post.length<=9223372036854775807:=by simp;omega
    have c5:((([]:List Pc)++t.post++t2.post).length+([(2,[0,0,0,0])]:List Pc).length)*40<=140737488355328:=by simp;omega
    have c6:(([]:List Pc)++t.post++t2.post).length+([(2,[0,0,0,0])]:List Pc).length<=9223372036854775807:=by simp;omega
    have e:([]:List Pc)++t.post++t2.post++[(2,[0,0,0,0])]=(Rx.cat t t2).post:=rfl
    rw[iZ t2,cond_false,if_pos c1,if_pos c2,if_pos c3,if_pos c4,if_pos c5,if_pos c6,e,iZ,cond_false]
    exact hk (s.length-j2) _ (by omega) ⟨j2,.cat t t2,cm,rfl,⟨by omega,by omega,by simp only[Rx.len];omega,g4,f4⟩,by omega,rfl,hl⟩
  ·rw[if_neg hc]at hl
   rw[decide_eq_false hc,cond_false]
   subst hl
   rfl
theorem CE{s:List Int}(hb:Bytes s)(hs:s.length<=1600){q2 q3 q4 q5:RfF}{inner:Nat->Nat->Option (Rx×Nat)}{i d:Nat}(hi:i<=s.length)
 (yn:∀ j,i<=j->j<=s.length->OkQ (lJ inner s j d) (q3 (s,((j:Int),((d:Int),()))))) (cu:∀ j,i<=j->kn s j (lJ inner s j d)):
 OkQ (Cz inner s i d) (Ay N0 q2 q3 q4 q5 (s,((i:Int),((d:Int),())))):=by
 have hsm:s.length<=maxLen:=by unfold maxLen;omega
 unfold Ay
 dsimp only
 unfold Cz
 have ez:=yn i (aq _) hi
 unfold OkQ at ez
 cases ho:lJ inner s i d with
 |none=>
  rw[ho]at ez
  obtain⟨k0,hq⟩:=ez
  rw[aa hq]
  refine ew (λm x=>x=((),(k0,([],())))) (OkQ none) ?_ N0 0 _ (by unfold N0;omega) rfl
  rintro m x rfl k hk
  exact⟨_,rfl⟩
 |some p=>
  obtain⟨t0,j0⟩:=p
  rw[ho]at ez
  dsimp only at ez
  have hr0:=cu i (aq _) t0 j0 ho
  rw[aa ez]
  dsimp only
  generalize hrs:tc inner s d s.length.succ j0 t0=res
  refine ew (λm x=>∃ (j:Nat) (t:Rx) (cm:Nat),x=((),((j:Int),(t.post,())))/\Res s i t j/\s.length-j<cm/\m=s.length-j/\tc inner s d cm j t=res) (OkQ res) ?_ N0 (s.length-j0) _ (by unfold N0;omega) ⟨j0,t0,_,rfl,hr0,by omega,rfl,hrs⟩
  rintro m x ⟨j,t,cm,rfl,hr,hf,hm,hl⟩ k hk
  obtain⟨cm,rfl⟩:∃ q,cm=q+1:=⟨cm-1,by omega⟩
  simp only[tc]at hl
  dsimp only
  have n1:(0:Int)<=(j:Int):=by omega
  refine eo (P:=OkQ _) ((),(decide (j<s.length/\ch s j=124),())) (λK=>?_) ?_
  ·rw[iZ t,aI,cond_true]
   rcases ap j s.length with h|h
   ·rw[decide_eq_true (show(j:Int)<((s.length:Nat):Int) by omega),cond_true,if_pos n1,ae,hJ h]
    have e:decide (j<s.length/\ch s j=124)=decide (ch s j=124):=by
     rw[decide_eq_decide];exact⟨λh=>h.2,λh2=>⟨h,h2⟩⟩
    rw[e]
   ·have e:decide (j<s.length/\ch s j=124)=false:=decide_eq_false (λh2=>by omega)
    rw[decide_eq_false (show ¬(j:Int)<((s.length:Nat):Int) by omega),cond_false,e]
  dsimp only
  by_cases hc:j<s.length/\ch s j=124
  ·rw[if_pos hc]at hl
   obtain⟨g1,g2,g3,g4⟩:=hr
   have tl:=t.aV
   rw[decide_eq_true hc,cond_true,dh (by omega)]
   have hq:=yn (j+1) (by omega) (by omega)
   unfold OkQ at hq
   cases h2:lJ inner s (j+1) d with
   |none=>
    rw[h2]at hq hl
    obtain⟨k0,hq⟩:=hq
    rw[aa hq]
    subst hl
    exact⟨_,rfl⟩
   |some p=>
    obtain⟨t2,j2⟩:=p
    rw[h2]at hq hl
    dsimp only at hq hl
    obtain⟨f1,f2,f3,f4⟩:=cu (j+1) (by omega) t2 j2 h2
    have tl2:=t2.aV
    rw[aa hq]
    dsimp only
    have c1:(([]:List Pc).length+t.post.length)*40<=140737488355328:=by simp;omega
    have c2:([]:List Pc).length+t.post.length<=9223372036854775807:=by simp;omega
    have c3:((([]:List Pc)++t.post).length+t2.post.length)*40<=140737488355328:=by simp;omega
    have c4:(([]:List Pc)++t.post).length+t2.post.length<=9223372036854775807:=by simp;omega
    have c5:((([]:List Pc)++t.post++t2.post).length+([(3,[0,0,0,0])]:List Pc).length)*40<=140737488355328:=by simp;omega
    have c6:(([]:List Pc)++t.post++t2.post).length+([(3,[0,0,0,0])]:List Pc).length<=9223372036854775807:=by simp;omega
    have e:([]:List Pc)++t.post++t2.post++[(3,[0,0,0,0])]=(Rx.alt t t2).post:=rfl
    rw[iZ t2,cond_false,if_pos c1,if_pos c2,if_pos c3,if_pos c4,if_pos c5,if_pos c6,e,iZ,cond_false]
    exact hk (s.length-j2) _ (by omega) ⟨j2,.alt t t2,cm,rfl,⟨by omega,by omega,by simp only[Rx.len];omega,g4,f4⟩,by omega,rfl,hl⟩
  ·rw[if_neg hc]at hl
   rw[decide_eq_false hc,cond_false]
   subst hl
   rfl
theorem M7{s:List Int}(hb:Bytes s)(hs:s.length<=1600):∀ (n D i d:Nat),4*n<=D->s.length-i<n->i<=s.length->d<=i->OkQ (km s n i d) ((db N0 D).1 (s,((i:Int),((d:Int),())))):=by
 intro n
 induction n with
 |zero=>intro D i d _ h;omega
 |succ n ih=>
  intro D i d hD hn hi hd
  obtain⟨D,rfl⟩:∃ q,D=q+1+1+1+1:=⟨D-4,by omega⟩
  have cu:∀ i d,s.length-i<n->kn s i (km s n i d):=λi d h=>j9 hb n i d h
  have GH:∀ j,i<=j->kn s (j+1) (km s n (j+1) (d+1)):=λj hij t j2 h=>by
   rcases ap j s.length with hlt|hge
   ·exact cu (j+1) (d+1) (by omega) t j2 h
   ·cases n with
    |zero=>cases h
    |succ n=>exact j9 hb (n+1) (j+1) (d+1) (by omega) t j2 h
  have ez:∀ j,i<=j->j<=s.length->OkQ (mQ (km s n) s j d) ((db N0 (D+1)).2.2.2 (s,((j:Int),((d:Int),())))):=λj hij hj=>
   M5 (q2:=(db N0 (D)).1) (q3:=(db N0 (D)).2.1) (q4:=(db N0 (D)).2.2.1) (q5:=(db N0 (D)).2.2.2) hb hs (bF hd hij) (λhlt=>ih D (j+1) (d+1) (by omega) (by omega) (by omega) (by omega)) (GH j hij)
  have bG:∀ j,i<=j->j<=s.length->OkQ (kK (km s n) s j d) ((db N0 (D+1+1)).2.2.1 (s,((j:Int),((d:Int),())))):=λj hij hj=>
   CD (q2:=(db N0 (D+1)).1) (q3:=(db N0 (D+1)).2.1) (q4:=(db N0 (D+1)).2.2.1) (q5:=(db N0 (D+1)).2.2.2) hb hs (ez j hij hj) (uO hb (GH j hij))
  have yn:∀ j,i<=j->j<=s.length->OkQ (lJ (km s n) s j d) ((db N0 (D+1+1+1)).2.1 (s,((j:Int),((d:Int),())))):=λj hij hj=>
   M6 (q2:=(db N0 (D+1+1)).1) (q3:=(db N0 (D+1+1)).2.1) (q4:=(db N0 (D+1+1)).2.2.1) (q5:=(db N0 (D+1+1)).2.2.2) hb hs hj (λj2 hj2 hj3=>bG j2 (bF hij hj2) hj3) (λj2 hj2=>qd hb (GH j2 (bF hij hj2)))
  exact CE (q2:=(db N0 (D+1+1+1)).1) (q3:=(db N0 (D+1+1+1)).2.1) (q4:=(db N0 (D+1+1+1)).2.2.1) (q5:=(db N0 (D+1+1+1)).2.2.2) hb hs hi yn (λj hij t j2 h=>qe hb n cu (by omega) t j2 h)
theorem P6{s:List Int}(hb:Bytes s):p97 N0 (s,())=some (Jk (gk s)):=by
 unfold p97 gk
 dsimp only
 by_cases hs:1600<s.length
 ·rw[if_pos hs,decide_eq_true (show(1600:Int)<((s.length:Nat):Int) by omega),cond_true]
  rfl
 rw[if_neg hs,decide_eq_false (show ¬(1600:Int)<((s.length:Nat):Int) by omega),cond_false]
 have hq:OkQ (km s s.length.succ 0 0) (PJ N0 (s,(((0:Nat):Int),(((0:Nat):Int),())))):=M7 hb (by omega) s.length.succ N0 0 0 (by unfold N0;omega) (by omega) (aH _) (aq _)
 have e0:(s,(((0:Nat):Int),(((0:Nat):Int),())))=(s,((0:Int),((0:Int),()))):=rfl
 rw[e0]at hq
 unfold OkQ at hq
 cases ho:km s s.length.succ 0 0 with
 |none=>
  rw[ho]at hq
  obtain⟨k,hq⟩:=hq
  rw[aa hq]
  rfl
 |some p=>
  obtain⟨t,i⟩:=p
  rw[ho]at hq
  dsimp only at hq
  rw[aa hq]
  dsimp only
  refine aW ((),(decide (i<s.length),())) (λK=>?_) ?_
  ·have:decide (((i:Nat):Int)<((s.length:Nat):Int))=decide (i<s.length):=by rw[decide_eq_decide];omega
   rw[iZ t,cond_false,this]
  dsimp only
  by_cases h2:i<s.length
  ·rw[if_pos h2,decide_eq_true h2];rfl
  rw[if_neg h2,decide_eq_false h2,cond_false]
  rw[t.aV]
  by_cases h3:400<t.len
  ·rw[if_pos h3,decide_eq_true (show(400:Int)<((t.len:Nat):Int) by omega)];rfl
  ·rw[if_neg h3,decide_eq_false (show ¬(400:Int)<((t.len:Nat):Int) by omega)];rfl
end
noncomputable section
def cI(k:Int):Int:=if k=0\/k=1 then 0 else if k=2\/k=3 then 2 else 1
theorem Js:∀ k:Fin 7,GA N0 (((k.val:Nat):Int),())=some ((cI ((k.val:Nat):Int),()),()):=by decide +kernel
theorem tm{k:Int}(h:0<=k/\k<=6):GA N0 (k,())=some ((cI k,()),()):=by
 have:=Js ⟨k.toNat,by omega⟩
 simp only[dm h.1]at this
 exact this
theorem CF{k:Int}{a:Rx}(h:(Rx.rep k a).ok):0<=k/\k<=6/\cI k=1:=by
 rcases h.1 with rfl|rfl|rfl <;> decide
theorem CG{r:List Pc}(hr:r.length<=100000)(body)(Sf:body=(λ(v3:Unit×(Int×(Int×Unit)))=>(λ(v4:(Unit×(Int×(Int×Unit)))->Option ((Int×Unit)×Unit))=>
 (bif decide (0<=v3.2.2.1)then(if 0<=v3.2.2.1 then(match r[(v3.2.2.1).toNat]? with|some v5=>(aj (GA N0 (v5.1,())) (λv6=>(bif decide ((IntKind.wrap .i64 ((IntKind.wrap .i64 (v3.2.1-1))+v6.1.1))=0)then(some ((v3.2.2.1,()),()))else(v4 ((),((IntKind.wrap .i64 ((IntKind.wrap .i64 (v3.2.1-1))+v6.1.1)),((IntKind.wrap .i64 (v3.2.2.1-1)),())))))))|none=>none)else none)else(some ((0,()),())))))):
 ∀ (t:Rx) (F n:Nat) (l rest:List Pc),t.ok->r=l++t.post++rest->1<=n->n+t.len<=1000000->aE body (F+t.len) ((),((n:Int),(((l.length+t.len:Nat):Int)-1,())))=if n=1 then some ((((l.length:Nat):Int),()),())else aE body F ((),((n:Int)-1,(((l.length:Nat):Int)-1,()))):=by
 -- one step
 have step:∀ (F:Nat) (n i:Nat) (p:Pc),r[i]?=some p->0<=p.1/\p.1<=6->1<=n->n<=1000000->
  aE body (F+1) ((),((n:Int),((i:Int),())))=if(n:Int)-1+cI p.1=0 then some ((((i:Nat):Int),()),())else aE body F ((),((n:Int)-1+cI p.1,((i:Int)-1,()))):=by
  intro F n i p hp hk hn1 hn2
  have hi:i<r.length:=by
   rcases ap i r.length with h|h
   ·exact h
   ·rw[bn h]at hp;cases hp
  have ht:0<=cI p.1/\cI p.1<=2:=by
   unfold cI
   split
   ·omega
   ·split <;> omega
  rw[eJ,Sf]
  simp only
  have n0:(0:Int)<=(i:Int):=by omega
  have w1:IntKind.wrap .i64 ((n:Int)-1)=(n:Int)-1:=bD (by omega) (by omega)
  have w2:IntKind.wrap .i64 ((n:Int)-1+cI p.1)=(n:Int)-1+cI p.1:=bD (by omega) (by omega)
  have w3:IntKind.wrap .i64 ((i:Int)-1)=(i:Int)-1:=bD (by omega) (by omega)
  simp only[decide_eq_true n0,cond_true,if_pos n0,ae,hp,tm hk,aC,w1,w2,w3]
  by_cases h:(n:Int)-1+cI p.1=0
  ·rw[if_pos h,decide_eq_true h,cond_true]
  ·rw[if_neg h,decide_eq_false h,cond_false]
 intro t
 induction t with
 |eps=>
  intro F n l rest _ hr2 hn1 hn2
  simp only[Rx.len]
  have hp:r[l.length]?=some (0,zS):=by rw[hr2];simp[Rx.post]
  have e:((l.length+1:Nat):Int)-1=((l.length:Nat):Int):=by omega
  rw[e,step F n l.length _ hp (by decide) hn1 (by omega)]
  have e2:cI ((0,zS):Pc).1=0:=rfl
  rw[e2,Int.add_zero]
  by_cases h:n=1
  ·rw[if_pos h,if_pos (by omega)]
  ·rw[if_neg h,if_neg (by omega)]
 |set S=>
  intro F n l rest _ hr2 hn1 hn2
  simp only[Rx.len]
  have hp:r[l.length]?=some (1,S):=by rw[hr2];simp[Rx.post]
  have e:((l.length+1:Nat):Int)-1=((l.length:Nat):Int):=by omega
  rw[e,step F n l.length _ hp ⟨(by decide:(0:Int)<=1),(by decide:(1:Int)<=6)⟩ hn1 (by omega)]
  have e2:cI ((1,S):Pc).1=0:=rfl
  rw[e2,Int.add_zero]
  by_cases h:n=1
  ·rw[if_pos h,if_pos (by omega)]
  ·rw[if_neg h,if_neg (by omega)]
 |cat a b iha ihb=>
  intro F n l rest hok hr2 hn1 hn2
  simp only[Rx.len]at hn2 |-
  have hp:r[l.length+(a.len+b.len)]?=some (2,zS):=by
   rw[hr2]
   simp[Rx.post,<-a.aV,<-b.aV,cF]
  have e:((l.length+(a.len+b.len+1):Nat):Int)-1=((l.length+(a.len+b.len):Nat):Int):=by omega
  rw[e,show F+(a.len+b.len+1)=(F+a.len+b.len)+1 by omega,step _ n _ _ hp (by decide) hn1 (by omega)]
  have e2:cI ((2,zS):Pc).1=2:=rfl
  rw[e2,if_neg (by omega)]
  have hb:=ihb (F+a.len) (n+1) (l++a.post) ([(2,zS)]++rest) hok.2 (by rw[hr2];simp[Rx.post]) (by omega) (by omega)
  rw[if_neg (by omega)]at hb
  have e3:(n:Int)-1+2=((n+1:Nat):Int):=by omega
  have e4:((l.length+(a.len+b.len):Nat):Int)-1=(((l++a.post).length+b.len:Nat):Int)-1:=by rw[ak,a.aV];omega
  rw[e3,e4,hb]
  have ha:=iha F n l (b.post++[(2,zS)]++rest) hok.1 (by rw[hr2];simp[Rx.post]) hn1 (by omega)
  have e5:((n+1:Nat):Int)-1=(n:Int):=by omega
  rw[e5,ak,a.aV,ha]
 |alt a b iha ihb=>
  intro F n l rest hok hr2 hn1 hn2
  simp only[Rx.len]at hn2 |-
  have hp:r[l.length+(a.len+b.len)]?=some (3,zS):=by
   rw[hr2]
   simp[Rx.post,<-a.aV,<-b.aV,cF]
  have e:((l.length+(a.len+b.len+1):Nat):Int)-1=((l.length+(a.len+b.len):Nat):Int):=by omega
  rw[e,show F+(a.len+b.len+1)=(F+a.len+b.len)+1 by omega,step _ n _ _ hp (by decide) hn1 (by omega)]
  have e2:cI ((3,zS):Pc).1=2:=rfl
  rw[e2,if_neg (by omega)]
  have hb:=ihb (F+a.len) (n+1) (l++a.post) ([(3,zS)]++rest) hok.2 (by rw[hr2];simp[Rx.post]) (by omega) (by omega)
  rw[if_neg (by omega)]at hb
  have e3:(n:Int)-1+2=((n+1:Nat):Int):=by omega
  have e4:((l.length+(a.len+b.len):Nat):Int)-1=(((l++a.post).length+b.len:Nat):Int)-1:=by rw[ak,a.aV];omega
  rw[e3,e4,hb]
  have ha:=iha F n l (b.post++[(3,zS)]++rest) hok.1 (by rw[hr2];simp[Rx.post]) hn1 (by omega)
  have e5:((n+1:Nat):Int)-1=(n:Int):=by omega
  rw[e5,ak,a.aV,ha]
 |rep k a iha=>
  intro F n l rest hok hr2 hn1 hn2
  simp only[Rx.len]at hn2 |-
  obtain⟨k1,k2,k3⟩:=CF hok
  have hp:r[l.length+a.len]?=some (k,zS):=by
   rw[hr2]
   simp[Rx.post,<-a.aV]
  have e:((l.length+(a.len+1):Nat):Int)-1=((l.length+a.len:Nat):Int):=by omega
  rw[e,show F+(a.len+1)=(F+a.len)+1 by omega,step _ n _ _ hp ⟨k1,k2⟩ hn1 (by omega)]
  have e2:cI ((k,zS):Pc).1=1:=k3
  rw[e2,if_neg (by omega)]
  have ha:=iha F n l ([(k,zS)]++rest) hok.2 (by rw[hr2];simp[Rx.post]) hn1 (by omega)
  have e5:(n:Int)-1+1=(n:Int):=by omega
  rw[e5,ha]
theorem D9{l rest:List Pc}{t:Rx}(hok:t.ok)(hl:(l++t.post++rest).length<=100000):Cv N0 (l++t.post++rest,(((l.length+t.len:Nat):Int)-1,()))=some ((((l.length:Nat):Int),()),()):=by
 have hlen:t.len<=100000:=by
  have:=t.aV
  rw[ak,ak]at hl
  omega
 have h:=CG hl _ rfl t (N0-t.len) 1 l rest hok rfl (by omega) (by omega)
 rw[if_pos rfl,show N0-t.len+t.len=N0 by unfold N0;omega]at h
 exact h
end
noncomputable section
theorem qj{α:Type}(l m rest:List α):cz (l++m++rest) ((l.length:Nat):Int) ((l.length+m.length:Nat):Int)=m:=by
 unfold cz
 rw[ae,ae,qK,aN,oi,List.take_left]
theorem kC{r0:List Pc}{p:Pc}(h:r0.length<=100000):IntKind.wrap .i64 ((((r0++[p]).length:Nat):Int)-1)=((r0.length:Nat):Int)/\(r0++[p])[r0.length]?=some p:=by
 constructor
 ·have:((((r0++[p]).length:Nat):Int)-1)=((r0.length:Nat):Int):=by rw[ak];simp
  rw[this];exact bJ (by omega)
 ·simp
theorem GI{p:Pc}(hk:0<=p.1/\p.1<=6)(ht:cI p.1=0):x8 N0 ([p],())=some (([],()),()):=by
 obtain⟨h1,h2⟩:=kC (r0:=[]) (p:=p) (by simp)
 unfold x8
 have n0:(0:Int)<=((([]:List Pc).length:Nat):Int):=by omega
 rw[bM]at h1 h2
 simp only[h1,if_pos n0,ae,h2,tm hk,aC,ht]
 refine aZ (λm x r=>x=((),([],(((([]:List Pc).length:Nat):Int),((0:Int),()))))/\r=some (([],()),())) ?_ N0 0 _ _ (by unfold N0;omega) ⟨rfl,rfl⟩
 rintro m x r ⟨rfl,rfl⟩ k hk
 rfl
theorem wZ{rest:List Pc}{t:Rx}(hok:t.ok)(hl:(t.post++rest).length<=100000):Cv N0 (t.post++rest,(((t.post.length:Nat):Int)-1,()))=some (((0:Int),()),()):=by
 have e1:([]:List Pc)++t.post=t.post:=bM _
 have:=D9 (l:=[]) (rest:=rest) (t:=t) hok (by rw[e1];exact hl)
 have e2:([]:List Pc).length+t.len=t.post.length:=by rw[t.aV,bH,eE]
 have e3:((([]:List Pc).length:Nat):Int)=0:=rfl
 rw[e1,e2,e3]at this
 exact this
theorem Jt{a:Rx}{p:Pc}(ha:a.ok)(hl:a.len<=10000)(hk:0<=p.1/\p.1<=6)(ht:cI p.1=1):x8 N0 (a.post++[p],())=some (([a.post],()),()):=by
 have pl:=a.aV
 obtain⟨h1,h2⟩:=kC (r0:=a.post) (p:=p) (by omega)
 have n0:(0:Int)<=((a.post.length:Nat):Int):=by omega
 have q1:Cv N0 (a.post++[p],(((a.post.length:Nat):Int)-1,()))=some (((0:Int),()),()):=by
  exact wZ ha (by rw[ak,iu];omega)
 unfold x8
 simp only[h1]
 rw[if_pos n0,ae,h2]
 simp only
 rw[aa (tm hk),ht]
 simp only
 refine aZ (λm x r=>((m=1/\x=((),([],(((a.post.length:Nat):Int),((1:Int),())))))\/(m=0/\x=((),([a.post],((0:Int),((0:Int),()))))))/\r=some (([a.post],()),())) ?_ N0 1 _ _ (by unfold N0;omega) ⟨.inl ⟨rfl,rfl⟩,rfl⟩
 rintro m x r ⟨hx,rfl⟩ k hk
 rcases hx with⟨rfl,rfl⟩|⟨rfl,rfl⟩
 ·have w1:IntKind.wrap .i64 (((a.post.length:Nat):Int)-1)=((a.post.length:Nat):Int)-1:=bD (by omega) (by omega)
  have c0:(0:Int)<=0/\(0:Int)<=((a.post.length:Nat):Int)/\((a.post.length:Nat):Int)<=(((a.post++[p]).length:Nat):Int):=⟨by omega,by omega,by rw[ak];omega⟩
  have rW:cz (a.post++[p]) 0 ((a.post.length:Nat):Int)=a.post:=by
   have:=qj ([]:List Pc) a.post [p]
   simpa using this
  have f1:(([a.post]:List (List Pc)).length+([]:List (List Pc)).length)*24<=140737488355328:=by simp
  have f2:([a.post]:List (List Pc)).length+([]:List (List Pc)).length<=9223372036854775807:=by simp
  have w2:IntKind.wrap .i64 ((1:Int)-1)=0:=bD (by omega) (by omega)
  simp only[show decide ((0:Int)<1)=true from rfl,cond_true,w1,q1,aC,if_pos c0,rW,if_pos f1,if_pos f2,w2,b9]
  exact hk 0 _ _ (by omega) ⟨.inr ⟨rfl,rfl⟩,rfl⟩
 ·simp only[show decide ((0:Int)<0)=false from rfl,cond_false]
theorem AQ{a b:Rx}{p:Pc}(ha:a.ok)(hb:b.ok)(hl:a.len+b.len<=10000)(hk:0<=p.1/\p.1<=6)(ht:cI p.1=2):x8 N0 (a.post++b.post++[p],())=some (([a.post,b.post],()),()):=by
 have pl:=a.aV
 have pl2:=b.aV
 have VM:(a.post++b.post++[p]).length=(a.post++b.post).length+1:=by rw[ak];rfl
 have lab:(a.post++b.post).length=a.post.length+b.post.length:=ak
 obtain⟨h1,h2⟩:=kC (r0:=a.post++b.post) (p:=p) (by rw[ak];omega)
 have n0:(0:Int)<=(((a.post++b.post).length:Nat):Int):=by omega
 have q1:Cv N0 (a.post++b.post++[p],((((a.post++b.post).length:Nat):Int)-1,()))=some ((((a.post.length:Nat):Int),()),()):=by
  have:=D9 (l:=a.post) (rest:=[p]) (t:=b) hb (by simp;omega)
  rw[ak,pl2]
  exact this
 have q2:Cv N0 (a.post++b.post++[p],(((a.post.length:Nat):Int)-1,()))=some (((0:Int),()),()):=by
  rw[aN]
  exact wZ ha (by rw[ak,ak,iu];omega)
 unfold x8
 simp only[h1]
 rw[if_pos n0,ae,h2]
 simp only
 rw[aa (tm hk),ht]
 simp only
 refine aZ (λm x r=>((m=2/\x=((),([],((((a.post++b.post).length:Nat):Int),((2:Int),())))))\/(m=1/\x=((),([b.post],(((a.post.length:Nat):Int),((1:Int),())))))\/(m=0/\x=((),([a.post,b.post],((0:Int),((0:Int),()))))))/\r=some (([a.post,b.post],()),())) ?_ N0 2 _ _ (by unfold N0;omega) ⟨.inl ⟨rfl,rfl⟩,rfl⟩
 rintro m x r ⟨hx,rfl⟩ k hk
 rcases hx with⟨rfl,rfl⟩|⟨rfl,rfl⟩|⟨rfl,rfl⟩
 ·have w1:IntKind.wrap .i64 ((((a.post++b.post).length:Nat):Int)-1)=(((a.post++b.post).length:Nat):Int)-1:=bD (by omega) (by rw[ak];omega)
  have c0:(0:Int)<=((a.post.length:Nat):Int)/\((a.post.length:Nat):Int)<=(((a.post++b.post).length:Nat):Int)/\(((a.post++b.post).length:Nat):Int)<=(((a.post++b.post++[p]).length:Nat):Int):=⟨by omega,by omega,by omega⟩
  have rW:cz (a.post++b.post++[p]) ((a.post.length:Nat):Int) (((a.post++b.post).length:Nat):Int)=b.post:=by
   rw[lab]
   exact qj a.post b.post [p]
  have f1:(([b.post]:List (List Pc)).length+([]:List (List Pc)).length)*24<=140737488355328:=by simp
  have f2:([b.post]:List (List Pc)).length+([]:List (List Pc)).length<=9223372036854775807:=by simp
  have w2:IntKind.wrap .i64 ((2:Int)-1)=1:=bD (by omega) (by omega)
  simp only[show decide ((0:Int)<2)=true from rfl,cond_true,w1,q1,aC,if_pos c0,rW,if_pos f1,if_pos f2,w2,b9]
  exact hk 1 _ _ (by omega) ⟨.inr (.inl ⟨rfl,rfl⟩),rfl⟩
 ·have w1:IntKind.wrap .i64 (((a.post.length:Nat):Int)-1)=((a.post.length:Nat):Int)-1:=bD (by omega) (by omega)
  have c0:(0:Int)<=0/\(0:Int)<=((a.post.length:Nat):Int)/\((a.post.length:Nat):Int)<=(((a.post++b.post++[p]).length:Nat):Int):=⟨by omega,by omega,by rw[ak,ak];omega⟩
  have rW:cz (a.post++b.post++[p]) 0 ((a.post.length:Nat):Int)=a.post:=by
   have:=qj ([]:List Pc) a.post (b.post++[p])
   simpa using this
  have f1:(([a.post]:List (List Pc)).length+([b.post]:List (List Pc)).length)*24<=140737488355328:=by simp
  have f2:([a.post]:List (List Pc)).length+([b.post]:List (List Pc)).length<=9223372036854775807:=by simp
  have w2:IntKind.wrap .i64 ((1:Int)-1)=0:=bD (by omega) (by omega)
  simp only[show decide ((0:Int)<1)=true from rfl,cond_true,w1,q2,aC,if_pos c0,rW,if_pos f1,if_pos f2,w2]
  exact hk 0 _ _ (by omega) ⟨.inr (.inr ⟨rfl,rfl⟩),rfl⟩
 ·simp only[show decide ((0:Int)<0)=false from rfl,cond_false]
theorem yp(a b:Bool):IW N0 ([a],([b],()))=some (([a||b],()),()):=by
 revert a b
 decide +kernel
abbrev EnF:=(List Pc×(List Int×(List Bool×Unit)))->Option ((List Bool×Unit)×Unit)
theorem Ju{q2 q3:EnF}{r:List Pc}{n:Bool}(h:∀ b,q2 (r,([],([b],())))=some (([b&&n],()),()))(b:Bool):AD N0 q2 q3 (r,([],([b],())))=some (([b],()),()):=by
 unfold AD
 dsimp only
 refine aZ (λm x q=>x=((),([b],((0:Int),())))/\q=some (([b],()),())) ?_ N0 0 _ _ (by unfold N0;omega) ⟨rfl,rfl⟩
 rintro m x q ⟨rfl,rfl⟩ k hk
 have e1:decide ((0:Int)<=((([]:List Int).length:Nat):Int))=true:=rfl
 have e2:(b||(b&&n))=b:=by cases b <;> rfl
 simp only[e1,cond_true,h b,aC,yp,e2]
 refine aZ (λm x q=>((m=1/\x=((),(true,((0:Int),()))))\/(m=0/\x=((),(true,((1:Int),())))))/\q=some (([b],()),())) ?_ N0 1 _ _ (by unfold N0;omega) ⟨.inl ⟨rfl,rfl⟩,rfl⟩
 rintro m x q ⟨hx,rfl⟩ k2 hk2
 rcases hx with⟨rfl,rfl⟩|⟨rfl,rfl⟩
 ·have g0:([b]:List Bool)[((0:Int)).toNat]?=some b:=rfl
  have e3:decide ((0:Int)<(([b]:List Bool).length:Nat))=true:=rfl
  have n0:(0:Int)<=0:=by omega
  simp only[e3,cond_true,aJ,if_pos n0,g0,beq_self_eq_true]
  exact hk2 0 _ _ (by omega) ⟨.inr ⟨rfl,rfl⟩,rfl⟩
 ·rfl
end
noncomputable section
theorem AR{α:Type}(x:α)(l:List α):(x::l)[((0:Int)).toNat]?=some x:=rfl
theorem Sh{α:Type}(x y:α)(l:List α):(x::y::l)[((1:Int)).toNat]?=some y:=rfl
theorem AS{p:Pc}(hk:0<=p.1/\p.1<=6)(ht:cI p.1=0):x8 N0 ([]++[p],())=some (([],()),()):=by
 rw[bM];exact GI hk ht
theorem z0:(0:Int)<=0:=by omega
theorem z1:(0:Int)<=1:=by omega
theorem M8:∀ (t:Rx),t.ok->t.len<=10000->∀ (D:Nat) (b:Bool),2*t.len<=D->(gq N0 D).1 (t.post,([],([b],())))=some (([b&&t.null],()),()):=by
 have c0:∀ b:Bool,(0:Int)<=(([b]:List Bool).length:Nat)/\((([b]:List Bool).length:Nat):Int)<=(([b]:List Bool).length:Nat):=λb=>⟨by omega,by omega⟩
 have c1:∀ b:Bool,(((([b]:List Bool).length:Nat):Int)).toNat*1<=140737488355328:=λb=>by rw[ae,iu];omega
 intro t
 induction t with
 |eps=>
  intro _ _ D b hD
  obtain⟨D,rfl⟩:∃ q,D=q+1:=⟨D-1,by simp only[Rx.len]at hD;omega⟩
  obtain⟨h1,h2⟩:=kC (r0:=[]) (p:=(0,zS)) (by simp)
  have n0:(0:Int)<=((([]:List Pc).length:Nat):Int):=by omega
  show lH N0 (gq N0 D).1 (gq N0 D).2 ([]++[(0,zS)],([],([b],())))=_
  unfold lH
  simp only[h1]
  rw[if_pos (c0 b),if_pos (c1 b),aa (AS (p:=(0,zS)) (by decide) rfl)]
  simp only
  rw[if_pos n0,ae,h2]
  simp only
  rw[decide_true,cond_true,Rx.null,Bool.and_true]
 |set S=>
  intro _ _ D b hD
  obtain⟨D,rfl⟩:∃ q,D=q+1:=⟨D-1,by simp only[Rx.len]at hD;omega⟩
  obtain⟨h1,h2⟩:=kC (r0:=[]) (p:=(1,S)) (by simp)
  have n0:(0:Int)<=((([]:List Pc).length:Nat):Int):=by omega
  show lH N0 (gq N0 D).1 (gq N0 D).2 ([]++[(1,S)],([],([b],())))=_
  unfold lH
  simp only[h1]
  rw[if_pos (c0 b),if_pos (c1 b),aa (AS (p:=(1,S)) ⟨z1,(by decide:(1:Int)<=6)⟩ rfl)]
  simp only
  rw[if_pos n0,ae,h2]
  simp only
  rw[show decide ((1:Int)=0)=false from rfl,cond_false,decide_true,cond_true,Rx.null,Bool.and_false]
  refine aZ (λm x q=>x=(([false],()),((0:Int),()))/\q=some (([false],()),())) ?_ N0 0 _ _ (by unfold N0;omega) ⟨rfl,rfl⟩
  rintro m x q ⟨rfl,rfl⟩ k hk
  simp only
  rw[show decide ((0:Int)<((([]:List Int).length:Nat):Int))=false from rfl,cond_false]
 |cat u v ihu ihv=>
  intro hok hl D b hD
  simp only[Rx.len]at hl hD
  obtain⟨D,rfl⟩:∃ q,D=q+1:=⟨D-1,by omega⟩
  obtain⟨h1,h2⟩:=kC (r0:=u.post++v.post) (p:=(2,zS)) (by rw[ak,u.aV,v.aV];omega)
  have n0:(0:Int)<=(((u.post++v.post).length:Nat):Int):=by omega
  show lH N0 (gq N0 D).1 (gq N0 D).2 (u.post++v.post++[(2,zS)],([],([b],())))=_
  unfold lH
  simp only[h1]
  rw[if_pos (c0 b),if_pos (c1 b),aa (AQ (p:=(2,zS)) hok.1 hok.2 (by omega) (by decide) rfl)]
  simp only
  rw[if_pos n0,ae,h2]
  simp only
  rw[show decide ((2:Int)=0)=false from rfl,cond_false,show decide ((2:Int)=1)=false from rfl,cond_false,decide_true,cond_true,if_pos z1,Sh]
  simp only
  rw[if_pos z0,AR]
  simp only
  rw[aa (ihu hok.1 (by omega) D b (by omega))]
  simp only
  rw[aa (ihv hok.2 (by omega) D (b&&u.null) (by omega))]
  simp only
  rw[Rx.null,oh]
 |alt u v ihu ihv=>
  intro hok hl D b hD
  simp only[Rx.len]at hl hD
  obtain⟨D,rfl⟩:∃ q,D=q+1:=⟨D-1,by omega⟩
  obtain⟨h1,h2⟩:=kC (r0:=u.post++v.post) (p:=(3,zS)) (by rw[ak,u.aV,v.aV];omega)
  have n0:(0:Int)<=(((u.post++v.post).length:Nat):Int):=by omega
  show lH N0 (gq N0 D).1 (gq N0 D).2 (u.post++v.post++[(3,zS)],([],([b],())))=_
  unfold lH
  simp only[h1]
  rw[if_pos (c0 b),if_pos (c1 b),aa (AQ (p:=(3,zS)) hok.1 hok.2 (by omega) (by decide) rfl)]
  simp only
  rw[if_pos n0,ae,h2]
  simp only
  rw[show decide ((3:Int)=0)=false from rfl,cond_false,show decide ((3:Int)=1)=false from rfl,cond_false,show decide ((3:Int)=2)=false from rfl,cond_false,decide_true,cond_true,if_pos z0,AR]
  simp only
  rw[aa (ihu hok.1 (by omega) D b (by omega))]
  simp only
  rw[if_pos z1,Sh]
  simp only
  rw[aa (ihv hok.2 (by omega) D b (by omega))]
  simp only
  rw[aa (yp _ _),Rx.null]
  have e:((b&&u.null)||(b&&v.null))=(b&&(u.null||v.null)):=by cases b <;> simp
  simp only
  rw[e]
 |rep kd u ihu=>
  intro hok hl D b hD
  simp only[Rx.len]at hl hD
  have hup:=u.bL
  obtain⟨D,rfl⟩:∃ q,D=q+1+1:=⟨D-2,by omega⟩
  obtain⟨k1,k2,k3⟩:=CF hok
  obtain⟨h1,h2⟩:=kC (r0:=u.post) (p:=(kd,zS)) (by rw[u.aV];omega)
  have n0:(0:Int)<=((u.post.length:Nat):Int):=by omega
  show lH N0 (gq N0 (D+1)).1 (gq N0 (D+1)).2 (u.post++[(kd,zS)],([],([b],())))=_
  unfold lH
  simp only[h1]
  rw[if_pos (c0 b),if_pos (c1 b),aa (Jt (p:=(kd,zS)) hok.2 (by omega) ⟨k1,k2⟩ k3)]
  simp only
  rw[if_pos n0,ae,h2]
  simp only
  have hag:∀ b:Bool,(gq N0 (D+1)).2 (u.post,([],([b],())))=some (([b],()),()):=λb=>
   Ju (q2:=(gq N0 D).1) (q3:=(gq N0 D).2) (n:=u.null) (λb=>ihu hok.2 (by omega) D b (by omega)) b
  have hu:=λb=>ihu hok.2 (by omega) (D+1) b (by omega)
  rcases hok.1 with rfl|rfl|rfl
  ·rw[show decide ((4:Int)=0)=false from rfl,cond_false,show decide ((4:Int)=1)=false from rfl,cond_false,show decide ((4:Int)=2)=false from rfl,cond_false,show decide ((4:Int)=3)=false from rfl,cond_false,show decide ((4:Int)=6)=false from rfl,cond_false,if_pos n0]
   rw[show decide ((4:Int)=4)=true from rfl,cond_true,if_pos z0,AR]
   simp only
   rw[aa (hag b)]
   simp only
   have e:(b&&(Rx.rep 4 u).null)=b:=by simp[Rx.null]
   rw[e]
  ·rw[show decide ((5:Int)=0)=false from rfl,cond_false,show decide ((5:Int)=1)=false from rfl,cond_false,show decide ((5:Int)=2)=false from rfl,cond_false,show decide ((5:Int)=3)=false from rfl,cond_false,show decide ((5:Int)=6)=false from rfl,cond_false,if_pos n0]
   rw[show decide ((5:Int)=4)=false from rfl,cond_false,if_pos z0,AR]
   simp only
   rw[if_pos z0]
   rw[aa (hu b)]
   simp only
   rw[aa (hag _)]
   simp only
   have e:(Rx.rep 5 u).null=u.null:=by simp[Rx.null]
   rw[e]
  ·rw[show decide ((6:Int)=0)=false from rfl,cond_false,show decide ((6:Int)=1)=false from rfl,cond_false,show decide ((6:Int)=2)=false from rfl,cond_false,show decide ((6:Int)=3)=false from rfl,cond_false,show decide ((6:Int)=6)=true from rfl,cond_true,if_pos z0,AR]
   simp only
   rw[aa (hu b)]
   simp only
   rw[aa (yp _ _)]
   simp only
   have e:(b||(b&&u.null))=(b&&(Rx.rep 6 u).null):=by cases b <;> simp[Rx.null]
   rw[e]
theorem P7{t:Rx}(hok:t.ok)(hl:t.len<=10000):p98 N0 (t.post,([],()))=some ((t.null,()),()):=by
 have h:=M8 t hok hl N0 true (by unfold N0;omega)
 unfold p98
 have w:IntKind.wrap .i64 ((((([]:List Int).length:Nat):Int))+1)=1:=bD (by simp) (by simp)
 simp only[w]
 rw[if_pos (show(0:Int)<=1/\(1:Int)<=1 by omega),if_pos (show((1:Int)).toNat*1<=140737488355328 by decide),if_pos z0,show(List.replicate ((1:Int)).toNat false)[((0:Int)).toNat]?=some false from rfl]
 simp only
 rw[if_pos z0,show(List.replicate ((1:Int)).toNat false).set ((0:Int)).toNat true=[true]from rfl]
 have h2:PO N0 (t.post,([],([true],())))=some (([true&&t.null],()),()):=h
 rw[aa h2]
 simp only
 rw[show(((([]:List Int).length:Nat):Int))=0 from rfl,if_pos z0,AR]
 simp only
 rw[bI]
end
noncomputable section
theorem tp{S:List Int}{w:Nat}{x:Int}(hx:S[w]?=some x)(h:0<=x/\x<=18446744073709551615):x=((bw (λi=>((S[i / 64]?).getD 0).toNat.testBit (i % 64)) w:Nat):Int):=by
 have:x.toNat=bw (λi=>((S[i / 64]?).getD 0).toNat.testBit (i % 64)) w:=by
  apply oI
  intro i
  by_cases hi:i<64
  ·have e1:(64*w+i) / 64=w:=by omega
   have e2:(64*w+i) % 64=i:=by omega
   rw[e1,e2,hx,decide_eq_true hi,bI]
   rfl
  ·rw[decide_eq_false hi,dI]
   apply jD
   have:x.toNat<2 ^ 64:=by omega
   exact bA this (ix (by omega) (by omega))
 omega
theorem Ea{S:List Int}(h1:S.length=4)(h2:∀ x∈S,0<=x/\x<=18446744073709551615):∃ l,S=ofB l:=by
 match S,h1 with
 |[a,b,c,d],_=>
  refine⟨λi=>((([a,b,c,d]:List Int)[i / 64]?).getD 0).toNat.testBit (i % 64),?_⟩
  have e0:=tp (S:=[a,b,c,d]) (w:=0) rfl (h2 a (by simp))
  have e1:=tp (S:=[a,b,c,d]) (w:=1) rfl (h2 b (by simp))
  have e2:=tp (S:=[a,b,c,d]) (w:=2) rfl (h2 c (by simp))
  have e3:=tp (S:=[a,b,c,d]) (w:=3) rfl (h2 d (by simp))
  unfold ofB
  rw[<-e0,<-e1,<-e2,<-e3]
theorem AT{S:List Int}(h1:S.length=4)(h2:∀ x∈S,0<=x/\x<=18446744073709551615):ta N0 (S,())=some ((decide (S=zS),()),()):=by
 obtain⟨l,rfl⟩:=Ea h1 h2
 rw[D1]
 have:eu l=decide (ofB l=zS):=by
  rw[cf,decide_eq_true_eq,hC]
 rw[this]
theorem tq:ta N0 (zS,())=some ((true,()),()):=by
 rw[AT rfl (by decide)]
 rfl
theorem iO{k:Int}(h:0<=k/\k<=6):Aq N0 (k,())=some ((cI k,()),()):=by
 rw[ym]
 have:(if k=0\/k=1 then(0:Int)else if k=4\/k=5\/k=6 then 1 else if k=2\/k=3 then 2 else -1)=cI k:=by
  unfold cI
  by_cases h0:k=0\/k=1
  ·rw[if_pos h0,if_pos h0]
  ·rw[if_neg h0,if_neg h0]
   by_cases h1:k=2\/k=3
   ·rw[if_neg (by omega),if_pos h1,if_pos h1]
   ·rw[if_pos (by omega),if_neg h1]
 rw[this]
abbrev ChS:=Unit×(Int×(Int×Unit))
def chB(r:List Pc):ChS->(ChS->Option ((Int×Unit)×Unit))->Option ((Int×Unit)×Unit):=λv3 v4=>
 (bif decide (v3.2.2.1<((r.length:Nat):Int))then(if 0<=v3.2.2.1 then(match r[(v3.2.2.1).toNat]? with|some v5=>(aj (Aq N0 (v5.1,())) λv6=>(aw (λ(v7:Unit×(Bool×Unit))=>(bif v7.2.1 then some ((5,()),())else v4 ((),(IntKind.wrap .i64 (v3.2.1+IntKind.wrap .i64 (1-v6.1.1)),(IntKind.wrap .i64 (v3.2.2.1+1),()))))) λv8=>(bif decide (v6.1.1<0)then v8 ((),(true,()))else(bif decide (v3.2.1<v6.1.1)then v8 ((),(true,()))else(aj (ta N0 (v5.2,())) λv9=>v8 ((),((decide (v5.1=1) == v9.1.1),())))))))|none=>none)else none)else(bif !decide (v3.2.1=1)then some ((5,()),())else some ((0,()),())))
theorem qk{r:List Pc}(hr:r.length<=100000)(F d i:Nat)(p:Pc)(hp:r[i]?=some p)(hk:0<=p.1/\p.1<=6)(hd:cI p.1<=(d:Int))(hd2:d<=1000000)(hs:ta N0 (p.2,())=some ((!decide (p.1=1),()),())):
 aE (chB r) (F+1) ((),((d:Int),((i:Int),())))=aE (chB r) F ((),((d:Int)+(1-cI p.1),(((i+1:Nat):Int),()))):=by
 have hi:i<r.length:=by
  rcases ap i r.length with h|h
  ·exact h
  ·rw[bn h]at hp;cases hp
 have ht:0<=cI p.1/\cI p.1<=2:=by
  unfold cI
  split
  ·omega
  ·split <;> omega
 rw[eJ]
 unfold chB
 simp only
 have n0:(0:Int)<=(i:Int):=by omega
 have w1:IntKind.wrap .i64 (1-cI p.1)=1-cI p.1:=bD (by omega) (by omega)
 have w2:IntKind.wrap .i64 ((d:Int)+(1-cI p.1))=(d:Int)+(1-cI p.1):=bD (by omega) (by omega)
 rw[decide_eq_true (show(i:Int)<((r.length:Nat):Int) by omega),cond_true,if_pos n0,ae,hp]
 simp only
 rw[aa (iO hk)]
 simp only
 refine aW ((),(false,())) (λK=>?_) ?_
 ·rw[decide_eq_false (show ¬cI p.1<0 by omega),cond_false,decide_eq_false (show ¬(d:Int)<cI p.1 by omega),cond_false,aa hs]
  cases decide (p.1=1) <;> rfl
 ·simp only
  rw[cond_false,w1,w2,dh (by omega)]
theorem M9{r:List Pc}(hr:r.length<=100000):∀ (t:Rx) (F d:Nat) (l rest:List Pc),t.ok->r=l++t.post++rest->d+t.len<=1000000->
 aE (chB r) (F+t.len) ((),((d:Int),((l.length:Int),())))=aE (chB r) F ((),(((d+1:Nat):Int),(((l.length+t.len:Nat):Int),()))):=by
 intro t
 induction t with
 |eps=>
  intro F d l rest _ hr2 hd
  simp only[Rx.len]
  have hp:r[l.length]?=some (0,zS):=by rw[hr2];simp[Rx.post]
  rw[qk hr F d l.length _ hp (by decide) (by show(0:Int)<=_;omega) (by omega) tq]
  rfl
 |set S=>
  intro F d l rest hok hr2 hd
  simp only[Rx.len]
  have hp:r[l.length]?=some (1,S):=by rw[hr2];simp[Rx.post]
  have hs:=AT hok.1 hok.2.2
  rw[decide_eq_false hok.2.1]at hs
  rw[qk hr F d l.length _ hp ⟨z1,(by decide:(1:Int)<=6)⟩ (by show(0:Int)<=_;omega) (by omega) hs]
  rfl
 |cat a b iha ihb=>
  intro F d l rest hok hr2 hd
  simp only[Rx.len]at hd |-
  have pa:=a.bL
  have pb:=b.bL
  have hp:r[l.length+a.len+b.len]?=some (2,zS):=by
   rw[hr2]
   simp[Rx.post,<-a.aV,<-b.aV,cF]
  rw[show F+(a.len+b.len+1)=(F+1+b.len)+a.len by omega,iha (F+1+b.len) d l (b.post++[(2,zS)]++rest) hok.1 (by rw[hr2];simp[Rx.post]) (by omega)]
  have hb:=ihb (F+1) (d+1) (l++a.post) ([(2,zS)]++rest) hok.2 (by rw[hr2];simp[Rx.post]) (by omega)
  rw[ak,a.aV]at hb
  rw[hb,qk hr F (d+1+1) _ _ hp (by decide) (by show(2:Int)<=_;omega) (by omega) tq]
  have e1:((d+1+1:Nat):Int)+(1-cI ((2,zS):Pc).1)=((d+1:Nat):Int):=by
   show _+(1-2:Int)=_
   omega
  have e2:l.length+a.len+b.len+1=l.length+(a.len+b.len+1):=by omega
  rw[e1,e2]
 |alt a b iha ihb=>
  intro F d l rest hok hr2 hd
  simp only[Rx.len]at hd |-
  have pa:=a.bL
  have pb:=b.bL
  have hp:r[l.length+a.len+b.len]?=some (3,zS):=by
   rw[hr2]
   simp[Rx.post,<-a.aV,<-b.aV,cF]
  rw[show F+(a.len+b.len+1)=(F+1+b.len)+a.len by omega,iha (F+1+b.len) d l (b.post++[(3,zS)]++rest) hok.1 (by rw[hr2];simp[Rx.post]) (by omega)]
  have hb:=ihb (F+1) (d+1) (l++a.post) ([(3,zS)]++rest) hok.2 (by rw[hr2];simp[Rx.post]) (by omega)
  rw[ak,a.aV]at hb
  rw[hb,qk hr F (d+1+1) _ _ hp (by decide) (by show(2:Int)<=_;omega) (by omega) tq]
  have e1:((d+1+1:Nat):Int)+(1-cI ((3,zS):Pc).1)=((d+1:Nat):Int):=by
   show _+(1-2:Int)=_
   omega
  have e2:l.length+a.len+b.len+1=l.length+(a.len+b.len+1):=by omega
  rw[e1,e2]
 |rep k a iha=>
  intro F d l rest hok hr2 hd
  simp only[Rx.len]at hd |-
  obtain⟨k1,k2,k3⟩:=CF hok
  have hp:r[l.length+a.len]?=some (k,zS):=by
   rw[hr2]
   simp[Rx.post,<-a.aV]
  have hk1:decide (k=1)=false:=by
   rcases hok.1 with rfl|rfl|rfl <;> rfl
  have hs:ta N0 (((k,zS):Pc).2,())=some ((!decide (((k,zS):Pc).1=1),()),()):=by
   show ta N0 (zS,())=some ((!decide (k=1),()),())
   rw[tq,hk1];rfl
  rw[show F+(a.len+1)=(F+1)+a.len by omega,iha (F+1) d l ([(k,zS)]++rest) hok.2 (by rw[hr2];simp[Rx.post]) (by omega),
   qk hr F (d+1) _ _ hp ⟨k1,k2⟩ (by show cI k<=_;rw[k3];omega) (by omega) hs]
  have e1:((d+1:Nat):Int)+(1-cI ((k,zS):Pc).1)=((d+1:Nat):Int):=by
   show _+(1-cI k)=_
   rw[k3];omega
  have e2:l.length+a.len+1=l.length+(a.len+1):=by omega
  rw[e1,e2]
theorem Na{t:Rx}(hok:t.ok)(hl:t.len<=400):Mp N0 (t.post,())=some ((0,()),()):=by
 have tl:=t.aV
 have h:=M9 (r:=t.post) (by omega) t (N0-t.len) 0 [] [] hok (by simp) (by omega)
 rw[show N0-t.len+t.len=N0 by unfold N0;omega]at h
 unfold Mp
 simp only
 rw[decide_eq_false (show ¬(400:Int)<((t.post.length:Nat):Int) by omega),cond_false]
 refine Eq.trans h ?_
 obtain⟨q,hq⟩:∃ q,N0-t.len=q+1:=⟨N0-t.len-1,by unfold N0;omega⟩
 rw[hq,eJ]
 unfold chB
 simp only
 have e:((([]:List Pc).length+t.len:Nat):Int)=((t.post.length:Nat):Int):=by rw[tl];simp
 rw[e,decide_eq_false (show ¬((t.post.length:Nat):Int)<((t.post.length:Nat):Int) by omega),cond_false]
 rfl
end
noncomputable section
abbrev EdI:=Int×(Int×(List Int×Bool))
abbrev edI(e:Ed):EdI:=((e.1:Int),((e.2.1:Int),(e.2.2.1,e.2.2.2)))
abbrev NfI:=Int×(List EdI×(Int×Int))
def nf(n:Nat)(E:List Ed):NfI:=((n:Int),(E.map edI,(0,0)))
theorem ql{n:Nat}(hn:n<=100000)(E:List Ed):Mq N0 (nf n E,())=some ((((n:Int),((n+1:Nat):Int)),()),(nf (n+2) E,())):=by
 have h:∀ m:Nat,m<=100001->IK N0 (nf m E,())=some (((m:Int),()),(nf (m+1) E,())):=by
  intro m hm
  have w:IntKind.wrap .i64 (((m+1:Nat):Int)-1)=(m:Int):=by
   have:((m+1:Nat):Int)-1=(m:Int):=by omega
   rw[this];exact bJ (by omega)
  unfold IK nf
  simp only[dh (show m+1<9223372036854775808 by omega),w]
 unfold Mq
 simp only[h n (by omega),h (n+1) (by omega),aC]
theorem fF{E:List Ed}(hE:E.length<=100000)(n f l:Nat):rP N0 (nf n E,((f:Int),((l:Int),())))=some ((),(nf n (E++[fE f l]),())):=by
 unfold rP nf
 have c1:((E.map edI).length+([((f:Int),((l:Int),([0,0,0,0],true)))]:List EdI).length)*56<=140737488355328:=by simp;omega
 have c2:(E.map edI).length+([((f:Int),((l:Int),([0,0,0,0],true)))]:List EdI).length<=9223372036854775807:=by simp;omega
 simp only
 rw[if_pos c1,if_pos c2,eD]
 rfl
theorem uS{st0 ch:List (Int×Int)}(hl:(st0++ch).length<=100000){k:Int}(hk:k=((ch.length:Nat):Int))(X:Int×Int):
 IntKind.wrap .i64 ((((st0++ch).length:Nat):Int)-k)=((st0.length:Nat):Int)/\((0:Int)<=0/\(0:Int)<=((st0.length:Nat):Int)/\((st0.length:Nat):Int)<=(((st0++ch).length:Nat):Int))/\cz (st0++ch) 0 ((st0.length:Nat):Int)=st0/\(st0.length+([X]:List (Int×Int)).length)*16<=140737488355328/\st0.length+([X]:List (Int×Int)).length<=9223372036854775807:=by
 rw[ak]at hl
 subst hk
 refine⟨?_,⟨by omega,by omega,by rw[ak];omega⟩,?_,by rw[iu];omega,by rw[iu];omega⟩
 ·have:((((st0++ch).length:Nat):Int)-((ch.length:Nat):Int))=((st0.length:Nat):Int):=by rw[ak];omega
  rw[this];exact bJ (by omega)
 ·have:=qj ([]:List (Int×Int)) st0 ch
  rw[bM,bH,eE]at this
  exact this
theorem Jv{n:Nat}(hn:n<=100000){E:List Ed}(hE:E.length<=10000)(S:List Int){st:List (Int×Int)}(hst:st.length<=100000):
 pZ N0 (nf n E,((1,S),(st,())))=some ((st++[((n:Int),((n+1:Nat):Int))],()),(nf (n+2) (E++[(n,n+1,S,false)]),())):=by
 unfold pZ
 simp only[ql hn,aC]
 refine aW ((nf (n+2) (E++[(n,n+1,S,false)]),(st,())),()) (λK=>?_) ?_
 ·simp only[aJ,show decide ((1:Int)=0)=false from rfl,show decide ((1:Int)=1)=true from rfl,decide_true,cond_false,cond_true]
  unfold nf
  have c1:((E.map edI).length+([((n:Int),(((n+1:Nat):Int),(S,false)))]:List EdI).length)*56<=140737488355328:=by simp;omega
  have c2:(E.map edI).length+([((n:Int),(((n+1:Nat):Int),(S,false)))]:List EdI).length<=9223372036854775807:=by simp;omega
  simp only
  rw[if_pos c1,if_pos c2,eD]
  rfl
 ·obtain⟨h1,h2,h3,h4,h5⟩:=uS (st0:=st) (ch:=[]) (by rw[b9];exact hst) (k:=0) rfl ((n:Int),((n+1:Nat):Int))
  rw[b9]at h1 h2 h3
  simp only
  rw[aa (iO (k:=1) (by decide))]
  have e:cI 1=0:=rfl
  simp only[e,h1]
  rw[if_pos h2,h3,if_pos h4,if_pos h5]
theorem Jw{n:Nat}(hn:n<=100000){E:List Ed}(hE:E.length<=10000){st:List (Int×Int)}(hst:st.length<=100000):
 pZ N0 (nf n E,((0,zS),(st,())))=some ((st++[((n:Int),((n+1:Nat):Int))],()),(nf (n+2) (E++[fE n (n+1)]),())):=by
 unfold pZ
 simp only[ql hn,aC]
 refine aW ((nf (n+2) (E++[fE n (n+1)]),(st,())),()) (λK=>?_) ?_
 ·rw[decide_true,cond_true,aa (fF (by omega) _ _ _)]
 ·obtain⟨h1,h2,h3,h4,h5⟩:=uS (st0:=st) (ch:=[]) (by rw[b9];exact hst) (k:=0) rfl ((n:Int),((n+1:Nat):Int))
  rw[b9]at h1 h2 h3
  simp only
  rw[aa (iO (k:=0) (by decide))]
  have e:cI 0=0:=rfl
  simp only[e,h1]
  rw[if_pos h2,h3,if_pos h4,if_pos h5]
theorem AU{st0:List (Int×Int)}{a b:Int×Int}(h:st0.length<=100000):IntKind.wrap .i64 ((((st0++[a,b]).length:Nat):Int)-2)=((st0.length:Nat):Int)/\IntKind.wrap .i64 ((((st0++[a,b]).length:Nat):Int)-1)=((st0.length+1:Nat):Int)/\(st0++[a,b])[st0.length]?=some a/\(st0++[a,b])[st0.length+1]?=some b:=by
 have hl:(st0++[a,b]).length=st0.length+2:=by rw[ak];rfl
 refine⟨?_,?_,by simp,by simp⟩
 ·have:((((st0++[a,b]).length:Nat):Int)-2)=((st0.length:Nat):Int):=by omega
  rw[this];exact bJ (by omega)
 ·have:((((st0++[a,b]).length:Nat):Int)-1)=((st0.length+1:Nat):Int):=by omega
  rw[this];exact bJ (by omega)
theorem Jx{n:Nat}(hn:n<=100000){E:List Ed}(hE:E.length<=10000){st0:List (Int×Int)}(hst:st0.length<=90000)(f1 l1 f2 l2:Nat):
 pZ N0 (nf n E,((2,zS),(st0++[((f1:Int),(l1:Int)),((f2:Int),(l2:Int))],())))=some ((st0++[((n:Int),((n+1:Nat):Int))],()),(nf (n+2) (E++[fE n f1,fE l1 f2,fE l2 (n+1)]),())):=by
 obtain⟨g1,g2,g3,g4⟩:=AU (st0:=st0) (a:=((f1:Int),(l1:Int))) (b:=((f2:Int),(l2:Int))) (by omega)
 unfold pZ
 simp only[ql hn,aC]
 refine aW ((nf (n+2) (E++[fE n f1,fE l1 f2,fE l2 (n+1)]),(st0++[((f1:Int),(l1:Int)),((f2:Int),(l2:Int))],())),()) (λK=>?_) ?_
 ·have n0:(0:Int)<=((st0.length:Nat):Int):=by omega
  have n1:(0:Int)<=((st0.length+1:Nat):Int):=by omega
  simp only[aJ,show decide ((2:Int)=0)=false from rfl,show decide ((2:Int)=1)=false from rfl,decide_true,cond_false,cond_true,g1,g2]
  rw[if_pos n0,ae,g3]
  simp only
  rw[if_pos n1,ae,g4]
  simp only
  rw[aa (fF (by omega) _ _ _)]
  simp only
  rw[aa (fF (by simp;omega) _ _ _)]
  simp only
  rw[aa (fF (by simp;omega) _ _ _)]
  simp only[aN,dU,bM]
 ·obtain⟨h1,h2,h3,h4,h5⟩:=uS (st0:=st0) (ch:=[((f1:Int),(l1:Int)),((f2:Int),(l2:Int))]) (by rw[ak];show st0.length+2<=_;omega) (k:=2) rfl ((n:Int),((n+1:Nat):Int))
  simp only
  rw[aa (iO (k:=2) (by decide))]
  have e:cI 2=2:=rfl
  simp only[e,h1]
  rw[if_pos h2,h3,if_pos h4,if_pos h5]
theorem Jy{n:Nat}(hn:n<=100000){E:List Ed}(hE:E.length<=10000){st0:List (Int×Int)}(hst:st0.length<=90000)(f1 l1 f2 l2:Nat):
 pZ N0 (nf n E,((3,zS),(st0++[((f1:Int),(l1:Int)),((f2:Int),(l2:Int))],())))=some ((st0++[((n:Int),((n+1:Nat):Int))],()),(nf (n+2) (E++[fE n f1,fE l1 (n+1),fE n f2,fE l2 (n+1)]),())):=by
 obtain⟨g1,g2,g3,g4⟩:=AU (st0:=st0) (a:=((f1:Int),(l1:Int))) (b:=((f2:Int),(l2:Int))) (by omega)
 have hl:(st0++[((f1:Int),(l1:Int)),((f2:Int),(l2:Int))]).length=st0.length+2:=by rw[ak];rfl
 unfold pZ
 simp only[ql hn,aC]
 refine aW ((nf (n+2) (E++[fE n f1,fE l1 (n+1),fE n f2,fE l2 (n+1)]),(st0++[((f1:Int),(l1:Int)),((f2:Int),(l2:Int))],())),()) (λK=>?_) ?_
 ·simp only[aJ,show decide ((3:Int)=0)=false from rfl,show decide ((3:Int)=1)=false from rfl,show decide ((3:Int)=2)=false from rfl,decide_true,cond_false,cond_true,g1]
  rw[if_pos ⟨by omega,by omega,by omega⟩]
  refine aZ (λm x q=>((m=2/\x=((nf (n+2) E,(st0++[((f1:Int),(l1:Int)),((f2:Int),(l2:Int))],())),((0:Int),())))\/(m=1/\x=((nf (n+2) (E++[fE n f1,fE l1 (n+1)]),(st0++[((f1:Int),(l1:Int)),((f2:Int),(l2:Int))],())),((1:Int),())))\/(m=0/\x=((nf (n+2) (E++[fE n f1,fE l1 (n+1),fE n f2,fE l2 (n+1)]),(st0++[((f1:Int),(l1:Int)),((f2:Int),(l2:Int))],())),((2:Int),()))))/\q=K ((nf (n+2) (E++[fE n f1,fE l1 (n+1),fE n f2,fE l2 (n+1)]),(st0++[((f1:Int),(l1:Int)),((f2:Int),(l2:Int))],())),())) ?_ N0 2 _ _ (by unfold N0;omega) ⟨.inl ⟨rfl,rfl⟩,rfl⟩
  have evL:sF ((st0.length:Nat):Int) (((st0++[((f1:Int),(l1:Int)),((f2:Int),(l2:Int))]).length:Nat):Int)=2:=by unfold sF;omega
  rintro m x q ⟨hx,rfl⟩ k hk
  rcases hx with⟨rfl,rfl⟩|⟨rfl,rfl⟩|⟨rfl,rfl⟩
  ·have e1:zx 0 ((st0.length:Nat):Int) (((st0++[((f1:Int),(l1:Int)),((f2:Int),(l2:Int))]).length:Nat):Int)=true:=by unfold zx;simp;omega
   have e2:mP ((st0.length:Nat):Int) 0=((st0.length:Nat):Int):=by unfold mP;simp
   have n0:(0:Int)<=((st0.length:Nat):Int):=by omega
   have w1:IntKind.wrap .i64 ((0:Int)+1)=1:=bD (by omega) (by omega)
   simp only[evL,e1,e2,show decide ((0:Int)<2)=true from rfl,cond_true]
   rw[if_pos n0,ae,g3]
   simp only
   rw[aa (fF (by omega) _ _ _)]
   simp only
   rw[aa (fF (by simp;omega) _ _ _),w1,aN]
   exact hk 1 _ _ (by omega) ⟨.inr (.inl ⟨rfl,rfl⟩),rfl⟩
  ·have e1:zx 1 ((st0.length:Nat):Int) (((st0++[((f1:Int),(l1:Int)),((f2:Int),(l2:Int))]).length:Nat):Int)=true:=by unfold zx;simp;omega
   have e2:mP ((st0.length:Nat):Int) 1=((st0.length+1:Nat):Int):=by unfold mP;simp
   have n0:(0:Int)<=((st0.length+1:Nat):Int):=by omega
   have w1:IntKind.wrap .i64 ((1:Int)+1)=2:=bD (by omega) (by omega)
   simp only[evL,e1,e2,show decide ((1:Int)<2)=true from rfl,cond_true]
   rw[if_pos n0,ae,g4]
   simp only
   rw[aa (fF (by simp;omega) _ _ _)]
   simp only
   rw[aa (fF (by simp;omega) _ _ _),w1]
   simp only[aN,dU,bM]
   exact hk 0 _ _ (by omega) ⟨.inr (.inr ⟨rfl,rfl⟩),rfl⟩
  ·simp only[evL,show decide ((2:Int)<2)=false from rfl,cond_false]
 ·obtain⟨h1,h2,h3,h4,h5⟩:=uS (st0:=st0) (ch:=[((f1:Int),(l1:Int)),((f2:Int),(l2:Int))]) (by rw[ak];show st0.length+2<=_;omega) (k:=2) rfl ((n:Int),((n+1:Nat):Int))
  simp only
  rw[aa (iO (k:=3) (by decide))]
  have e:cI 3=2:=rfl
  simp only[e,h1]
  rw[if_pos h2,h3,if_pos h4,if_pos h5]
theorem Jz{n:Nat}(hn:n<=100000){E:List Ed}(hE:E.length<=10000){st0:List (Int×Int)}(hst:st0.length<=90000){k:Int}(hk:k=4\/k=5\/k=6)(f1 l1:Nat):
 pZ N0 (nf n E,((k,zS),(st0++[((f1:Int),(l1:Int))],())))=some ((st0++[((n:Int),((n+1:Nat):Int))],()),(nf (n+2) (E++([fE n f1,fE l1 (n+1)]++(if k=6 then []else [fE l1 f1])++(if k=5 then []else [fE n (n+1)]))),())):=by
 have hl:(st0++[((f1:Int),(l1:Int))]).length=st0.length+1:=by rw[ak];rfl
 have g1:IntKind.wrap .i64 ((((st0++[((f1:Int),(l1:Int))]).length:Nat):Int)-1)=((st0.length:Nat):Int):=by
  have:((((st0++[((f1:Int),(l1:Int))]).length:Nat):Int)-1)=((st0.length:Nat):Int):=by omega
  rw[this];exact bJ (by omega)
 have g2:(st0++[((f1:Int),(l1:Int))])[st0.length]?=some ((f1:Int),(l1:Int)):=by simp
 have n0:(0:Int)<=((st0.length:Nat):Int):=by omega
 unfold pZ
 simp only[ql hn,aC]
 refine aW ((nf (n+2) (E++([fE n f1,fE l1 (n+1)]++(if k=6 then []else [fE l1 f1])++(if k=5 then []else [fE n (n+1)]))),(st0++[((f1:Int),(l1:Int))],())),()) (λK=>?_) ?_
 ·have q0:decide (k=0)=false:=decide_eq_false (by omega)
  have q1:decide (k=1)=false:=decide_eq_false (by omega)
  have q2:decide (k=2)=false:=decide_eq_false (by omega)
  have q3:decide (k=3)=false:=decide_eq_false (by omega)
  simp only[aJ,q0,q1,q2,q3,cond_false,g1]
  rw[if_pos n0,ae,g2]
  simp only
  rw[aa (fF (by omega) _ _ _)]
  simp only
  rw[aa (fF (by simp;omega) _ _ _)]
  simp only
  rcases hk with rfl|rfl|rfl
  ·simp only[show decide ((4:Int)=6)=false from rfl,show decide ((4:Int)=5)=false from rfl,aI,cond_true]
   rw[aa (fF (by simp;omega) _ _ _)]
   simp only
   rw[aa (fF (by simp;omega) _ _ _)]
   simp
  ·simp only[show decide ((5:Int)=6)=false from rfl,decide_true,aI,aB,cond_true,cond_false]
   rw[aa (fF (by simp;omega) _ _ _)]
   simp
  ·simp only[show decide ((6:Int)=5)=false from rfl,decide_true,aI,aB,cond_true,cond_false]
   rw[aa (fF (by simp;omega) _ _ _)]
   simp
 ·obtain⟨h1,h2,h3,h4,h5⟩:=uS (st0:=st0) (ch:=[((f1:Int),(l1:Int))]) (by omega) (k:=1) rfl ((n:Int),((n+1:Nat):Int))
  simp only
  have e:cI k=1:=by rcases hk with rfl|rfl|rfl <;> rfl
  rw[aa (iO (k:=k) (by omega))]
  simp only[e,h1]
  rw[if_pos h2,h3,if_pos h4,if_pos h5]
end
noncomputable section
theorem iP:∀ (t:Rx) (n:Nat),(t.ay n).length<=4*t.len:=by
 intro t
 induction t with
 |eps=>intro n;simp[Rx.ay,Rx.len]
 |set S=>intro n;simp[Rx.ay,Rx.len]
 |cat a b iha ihb=>
  intro n
  have h1:=iha n
  have h2:=ihb (n+2*a.len)
  simp only[Rx.ay,Rx.len,ak,aO,bH]
  omega
 |alt a b iha ihb=>
  intro n
  have h1:=iha n
  have h2:=ihb (n+2*a.len)
  simp only[Rx.ay,Rx.len,ak,aO,bH]
  omega
 |rep k a ih=>
  intro n
  have h1:=ih n
  simp only[Rx.ay,Rx.len,ak,aO,bH]
  split <;> split <;> simp <;> omega
abbrev OfS:=(NfI×(NfI×Unit))×(List (Int×Int)×(Int×Unit))
abbrev OfR:=(NfI×(Int×Unit))×Unit
def stB(r:List Pc):OfS->(OfS->Option OfR)->Option OfR:=λv4 v5=>
 (bif decide (v4.2.2.1<((r.length:Nat):Int))then(if 0<=v4.2.2.1 then(match r[(v4.2.2.1).toNat]? with|some v6=>(aj (pZ N0 (v4.1.2.1,(v6,(v4.2.1,())))) λv7=>v5 ((v4.1.1,(v7.2.1,())),(v7.1.1,(IntKind.wrap .i64 (v4.2.2.1+1),()))))|none=>none)else none)
 else(if(0:Int)<=0 then(match v4.2.1[((0:Int)).toNat]? with|some v8=>(if(0:Int)<=0 then(match v4.2.1[((0:Int)).toNat]? with|some v9=>some (((v4.1.2.1.1,(v4.1.2.1.2.1,(v8.1,v9.2))),(0,())),())|none=>none)else none)|none=>none)else none))
def pr(f l:Nat):Int×Int:=((f:Int),(l:Int))
theorem qm{r:List Pc}(hr:r.length<=100000)(F i:Nat)(p:Pc)(hp:r[i]?=some p){Z M M':NfI}{st st':List (Int×Int)}(h:pZ N0 (M,(p,(st,())))=some ((st',()),(M',()))):
 aE (stB r) (F+1) ((Z,(M,())),(st,((i:Int),())))=aE (stB r) F ((Z,(M',())),(st',(((i+1:Nat):Int),()))):=by
 have hi:i<r.length:=by
  rcases ap i r.length with h|h
  ·exact h
  ·rw[bn h]at hp;cases hp
 rw[eJ]
 unfold stB
 simp only
 have n0:(0:Int)<=(i:Int):=by omega
 rw[decide_eq_true (show(i:Int)<((r.length:Nat):Int) by omega),cond_true,if_pos n0,ae,hp]
 simp only
 rw[aa h]
 simp only[dh (show i+1<9223372036854775808 by omega)]
theorem Nb{r:List Pc}(hr:r.length<=100000){Z:NfI}:∀ (t:Rx) (F n:Nat) (E:List Ed) (st:List (Int×Int)) (l rest:List Pc),t.ok->r=l++t.post++rest->n+2*t.len<=100000->E.length+4*t.len<=10000->st.length+t.len<=90000->
 aE (stB r) (F+t.len) ((Z,(nf n E,())),(st,((l.length:Int),())))=aE (stB r) F ((Z,(nf (n+2*t.len) (E++t.ay n),())),(st++[pr (t.fst n) (t.lst n)],(((l.length+t.len:Nat):Int),()))):=by
 intro t
 induction t with
 |eps=>
  intro F n E st l rest _ hr2 hn hE hst
  simp only[Rx.len]at hn hE hst |-
  have hp:r[l.length]?=some (0,zS):=by rw[hr2];simp[Rx.post]
  rw[qm hr F l.length _ hp (Jw (by omega) (by omega) (by omega))]
  have e1:Rx.fst .eps n=n:=by simp only[Rx.fst,Rx.len];omega
  have e2:Rx.lst .eps n=n+1:=by simp only[Rx.lst,Rx.len];omega
  rw[e1,e2]
  rfl
 |set S=>
  intro F n E st l rest _ hr2 hn hE hst
  simp only[Rx.len]at hn hE hst |-
  have hp:r[l.length]?=some (1,S):=by rw[hr2];simp[Rx.post]
  rw[qm hr F l.length _ hp (Jv (by omega) (by omega) S (by omega))]
  have e1:Rx.fst (.set S) n=n:=by simp only[Rx.fst,Rx.len];omega
  have e2:Rx.lst (.set S) n=n+1:=by simp only[Rx.lst,Rx.len];omega
  rw[e1,e2]
  rfl
 |cat a b iha ihb=>
  intro F n E st l rest hok hr2 hn hE hst
  simp only[Rx.len]at hn hE hst |-
  have pa:=a.bL
  have pb:=b.bL
  have la:=iP a n
  have lb:=iP b (n+2*a.len)
  have hp:r[l.length+a.len+b.len]?=some (2,zS):=by
   rw[hr2]
   simp[Rx.post,<-a.aV,<-b.aV,cF]
  rw[show F+(a.len+b.len+1)=(F+1+b.len)+a.len by omega,iha (F+1+b.len) n E st l (b.post++[(2,zS)]++rest) hok.1 (by rw[hr2];simp[Rx.post]) (by omega) (by omega) (by omega)]
  have hb:=ihb (F+1) (n+2*a.len) (E++a.ay n) (st++[pr (a.fst n) (a.lst n)]) (l++a.post) ([(2,zS)]++rest) hok.2 (by rw[hr2];simp[Rx.post]) (by omega) (by rw[ak];omega) (by rw[ak,iu];omega)
  rw[ak,a.aV]at hb
  have e0:st++[pr (a.fst n) (a.lst n)]++[pr (b.fst (n+2*a.len)) (b.lst (n+2*a.len))]=st++[(((a.fst n:Nat):Int),((a.lst n:Nat):Int)),(((b.fst (n+2*a.len):Nat):Int),((b.lst (n+2*a.len):Nat):Int))]:=by
   rw[aN];rfl
  rw[e0]at hb
  rw[hb,qm hr F _ _ hp (Jx (by omega) (by rw[ak,ak];omega) (by omega) _ _ _ _)]
  have e1:(Rx.cat a b).fst n=n+2*a.len+2*b.len:=by simp only[Rx.fst,Rx.len];omega
  have e2:(Rx.cat a b).lst n=n+2*a.len+2*b.len+1:=by simp only[Rx.lst,Rx.len];omega
  have e3:E++a.ay n++b.ay (n+2*a.len)++[fE (n+2*a.len+2*b.len) (a.fst n),fE (a.lst n) (b.fst (n+2*a.len)),fE (b.lst (n+2*a.len)) (n+2*a.len+2*b.len+1)]=E++(Rx.cat a b).ay n:=by
   simp only[Rx.ay,aN]
   rw[show n+2*(a.len+b.len)=n+2*a.len+2*b.len by omega]
  rw[e1,e2,e3,show n+2*a.len+2*b.len+2=n+2*(a.len+b.len+1) by omega,show l.length+a.len+b.len+1=l.length+(a.len+b.len+1) by omega]
  rfl
 |alt a b iha ihb=>
  intro F n E st l rest hok hr2 hn hE hst
  simp only[Rx.len]at hn hE hst |-
  have pa:=a.bL
  have pb:=b.bL
  have la:=iP a n
  have lb:=iP b (n+2*a.len)
  have hp:r[l.length+a.len+b.len]?=some (3,zS):=by
   rw[hr2]
   simp[Rx.post,<-a.aV,<-b.aV,cF]
  rw[show F+(a.len+b.len+1)=(F+1+b.len)+a.len by omega,iha (F+1+b.len) n E st l (b.post++[(3,zS)]++rest) hok.1 (by rw[hr2];simp[Rx.post]) (by omega) (by omega) (by omega)]
  have hb:=ihb (F+1) (n+2*a.len) (E++a.ay n) (st++[pr (a.fst n) (a.lst n)]) (l++a.post) ([(3,zS)]++rest) hok.2 (by rw[hr2];simp[Rx.post]) (by omega) (by rw[ak];omega) (by rw[ak,iu];omega)
  rw[ak,a.aV]at hb
  have e0:st++[pr (a.fst n) (a.lst n)]++[pr (b.fst (n+2*a.len)) (b.lst (n+2*a.len))]=st++[(((a.fst n:Nat):Int),((a.lst n:Nat):Int)),(((b.fst (n+2*a.len):Nat):Int),((b.lst (n+2*a.len):Nat):Int))]:=by
   rw[aN];rfl
  rw[e0]at hb
  rw[hb,qm hr F _ _ hp (Jy (by omega) (by rw[ak,ak];omega) (by omega) _ _ _ _)]
  have e1:(Rx.alt a b).fst n=n+2*a.len+2*b.len:=by simp only[Rx.fst,Rx.len];omega
  have e2:(Rx.alt a b).lst n=n+2*a.len+2*b.len+1:=by simp only[Rx.lst,Rx.len];omega
  have e3:E++a.ay n++b.ay (n+2*a.len)++[fE (n+2*a.len+2*b.len) (a.fst n),fE (a.lst n) (n+2*a.len+2*b.len+1),fE (n+2*a.len+2*b.len) (b.fst (n+2*a.len)),fE (b.lst (n+2*a.len)) (n+2*a.len+2*b.len+1)]=E++(Rx.alt a b).ay n:=by
   simp only[Rx.ay,aN]
   rw[show n+2*(a.len+b.len)=n+2*a.len+2*b.len by omega]
  rw[e1,e2,e3,show n+2*a.len+2*b.len+2=n+2*(a.len+b.len+1) by omega,show l.length+a.len+b.len+1=l.length+(a.len+b.len+1) by omega]
  rfl
 |rep k a iha=>
  intro F n E st l rest hok hr2 hn hE hst
  simp only[Rx.len]at hn hE hst |-
  have la:=iP a n
  have hp:r[l.length+a.len]?=some (k,zS):=by
   rw[hr2]
   simp[Rx.post,<-a.aV]
  rw[show F+(a.len+1)=(F+1)+a.len by omega,iha (F+1) n E st l ([(k,zS)]++rest) hok.2 (by rw[hr2];simp[Rx.post]) (by omega) (by omega) (by omega),show st++[pr (a.fst n) (a.lst n)]=st++[(((a.fst n:Nat):Int),((a.lst n:Nat):Int))]from rfl,
   qm hr F _ _ hp (Jz (by omega) (by rw[ak];omega) (by omega) hok.1 _ _)]
  have e1:(Rx.rep k a).fst n=n+2*a.len:=by simp only[Rx.fst,Rx.len];omega
  have e2:(Rx.rep k a).lst n=n+2*a.len+1:=by simp only[Rx.lst,Rx.len];omega
  have e3:E++a.ay n++([fE (n+2*a.len) (a.fst n),fE (a.lst n) (n+2*a.len+1)]++(if k=6 then []else [fE (a.lst n) (a.fst n)])++(if k=5 then []else [fE (n+2*a.len) (n+2*a.len+1)]))=E++(Rx.rep k a).ay n:=by
   simp only[Rx.ay,aN]
  rw[e1,e2,e3,show n+2*a.len+2=n+2*(a.len+1) by omega,show l.length+a.len+1=l.length+(a.len+1) by omega]
  rfl
def nfT(t:Rx):NfI:=(((2*t.len:Nat):Int),((t.ay 0).map edI,(((t.fst 0:Nat):Int),((t.lst 0:Nat):Int))))
theorem Nc{t:Rx}(hok:t.ok)(hl:t.len<=400):Mr N0 (t.post,())=some ((nfT t,(0,())),()):=by
 have tl:=t.aV
 have h:=Nb (r:=t.post) (by omega) (Z:=nf 0 []) t (N0-t.len) 0 [] [] [] [] hok (by simp) (by omega) (by simp;omega) (by simp;omega)
 rw[show N0-t.len+t.len=N0 by unfold N0;omega]at h
 unfold Mr
 simp only
 rw[aa (Na hok hl)]
 simp only
 rw[decide_true,aB,cond_false]
 refine Eq.trans h ?_
 obtain⟨q,hq⟩:∃ q,N0-t.len=q+1:=⟨N0-t.len-1,by unfold N0;omega⟩
 rw[hq,eJ]
 unfold stB
 simp only
 have e:((([]:List Pc).length+t.len:Nat):Int)=((t.post.length:Nat):Int):=by rw[tl];simp
 rw[e,decide_eq_false (show ¬((t.post.length:Nat):Int)<((t.post.length:Nat):Int) by omega),cond_false,if_pos z0,bM,AR]
 simp only
 rw[if_pos z0,bM,eE]
 rfl
end
noncomputable section
def bsN(n:Nat)(f:Nat->Bool):List Bool:=(List.range n).map f
theorem hP(n:Nat)(f:Nat->Bool):(bsN n f).length=n:=by simp[bsN]
theorem hY{n:Nat}(f:Nat->Bool){i:Nat}(h:i<n):(bsN n f)[i]?=some (f i):=by
 unfold bsN
 rw[bS,dS h]
 rfl
theorem yq{n:Nat}(f:Nat->Bool){i:Nat}(h:i<n):(bsN n f).set i true=bsN n (λx=>f x||decide (x=i)):=by
 apply eC
 intro j
 rw[jG]
 by_cases hj:j<n
 ·have g1:=hY (n:=n) (λx=>f x||decide (x=i)) hj
  have g2:=hY (n:=n) f hj
  rw[g1,g2]
  by_cases e:i=j
  ·subst e
   rw[if_pos rfl,if_pos (by rw[hP];exact h)]
   simp
  ·rw[if_neg e]
   have:¬j=i:=λh=>e h.symm
   simp[this]
 ·have e1:(bsN n λx=>f x||decide (x=i))[j]?=none:=bn (by rw[hP];omega)
  have e2:(bsN n f)[j]?=none:=bn (by rw[hP];omega)
  rw[e1,e2,if_neg (by omega)]
def cnt(f:Nat->Bool):Nat->Nat
 |0=>0
 |n+1=>(if f n then 0 else 1)+cnt f n
theorem cnt_mono{f g:Nat->Bool}:∀ n,(∀ i,i<n->f i=true->g i=true)->cnt g n<=cnt f n:=by
 intro n
 induction n with
 |zero=>intro _;exact aq _
 |succ n ih=>
  intro h
  have h1:=ih λi hi=>h i (by omega)
  have h2:=h n (by omega)
  simp only[cnt]
  cases hf:f n
  ·cases hg:g n <;> simp <;> omega
  ·rw[h2 hf];simp;exact h1
theorem cnt_lt{f g:Nat->Bool}{q:Nat}:∀ n,(∀ i,i<n->f i=true->g i=true)->q<n->f q=false->g q=true->cnt g n<cnt f n:=by
 intro n
 induction n with
 |zero=>intro _ h;omega
 |succ n ih=>
  intro h hq hf hg
  simp only[cnt]
  by_cases e:q=n
  ·subst e
   have h1:=cnt_mono q λi hi=>h i (by omega)
   rw[hf,hg]
   simp
   omega
  ·have h1:=ih (λi hi=>h i (by omega)) (by omega) hf hg
   have h2:=h n (by omega)
   cases hf2:f n
   ·cases hg2:g n <;> simp <;> omega
   ·rw[h2 hf2];simp;exact h1
def mE(E:List Ed)(f:Nat->Bool):Prop:=∀ e∈E,e.2.2.2=true->f e.1=true->f e.2.1=true
def InE(n:Nat)(E:List Ed):Prop:=∀ e∈E,e.1<n/\e.2.1<n
def leB(f g:Nat->Bool):Prop:=∀ i,f i=true->g i=true
def gR(E:List Ed)(f g:Nat->Bool):Prop:=leB f g/\mE E g/\∀ D,mE E D->leB f D->leB g D
theorem Eb{n:Nat}(hn:n<=100000){E:List Ed}(hE:E.length<=100000)(hin:InE n E)(X:Int×Int)(f0:Nat->Bool):
 ∃ g,IL N0 (((n:Int),(E.map edI,X)),(bsN n f0,()))=some ((bsN n g,()),())/\gR E f0 g:=by
 unfold IL
 simp only
 have hcp:cpL (List.replicate ((n:Int)).toNat false) (bsN n f0)=bsN n f0:=by
  unfold cpL
  simp[hP]
  exact bR (by rw[hP];exact aq _)
 rw[if_pos (show(0:Int)<=(n:Int)/\(n:Int)<=(n:Int) by omega),if_pos (show((n:Int)).toNat*1<=140737488355328 by rw[ae];omega),hcp]
 refine ew (λm x=>∃ (f:Nat->Bool) (c:Bool),x=((bsN n f,()),(c,()))/\leB f0 f/\(∀ D,mE E D->leB f0 D->leB f D)/\(c=false->mE E f)/\m=cnt f n+(if c=true then 1 else 0)) (λz=>∃ g,z=some ((bsN n g,()),())/\gR E f0 g) ?_ N0 (cnt f0 n+1) _ ?_ ⟨f0,true,rfl,λi h=>h,λD _ h=>h,(λh=>by cases h),rfl⟩
 ·rintro m x ⟨f,c,rfl,h1,h2,h3,hm⟩ k hk
  simp only
  cases c
  ·rw[cond_false]
   exact⟨f,rfl,h1,h3 rfl,h2⟩
  ·rw[cond_true]
   simp only[if_true]at hm
   refine ew (λm2 x=>∃ (j:Nat) (g:Nat->Bool) (c:Bool),x=((bsN n g,()),(c,((j:Int),())))/\m2+j=E.length/\leB f g/\(∀ D,mE E D->leB f0 D->leB g D)/\(c=false->g=f/\∀ (i:Nat) e,i<j->E[i]?=some e->e.2.2.2=true->f e.1=true->f e.2.1=true)/\(c=true->cnt g n<cnt f n)) (λz=>∃ g,z=some ((bsN n g,()),())/\gR E f0 g) ?_ N0 E.length _ (by unfold N0;omega) ⟨0,f,false,rfl,rfl,λi h=>h,h2,λ_=>⟨rfl,λi e hi=>by omega⟩,(λh=>by cases h)⟩
   rintro m2 x ⟨j,g,c,rfl,hmj,q1,q2,q3,q4⟩ k2 hk2
   simp only
   rcases ap j E.length with hj|hj
   ·have n0:(0:Int)<=(j:Int):=by omega
    have hj2:(E.map edI)[j]?=some (edI E[j]):=by rw[bS,ah hj];rfl
    have lA:E[j]∈E:=bo hj
    obtain⟨r1,r2⟩:=hin _ lA
    have eg:E[j]?=some E[j]:=ah hj
    generalize E[j]=e at hj2 lA r1 r2 eg
    rw[decide_eq_true (show(j:Int)<(((E.map edI).length:Nat):Int) by rw[bN];omega),cond_true,if_pos n0,ae,hj2]
    have n1:(0:Int)<=(e.1:Int):=by omega
    have n2:(0:Int)<=(e.2.1:Int):=by omega
    have w1:IntKind.wrap .i64 ((j:Int)+1)=((j+1:Nat):Int):=dh (by omega)
    simp only[edI,w1]
    refine eo (P:=λz=>∃ g,z=some ((bsN n g,()),())/\gR E f0 g) ((bsN n g,()),(e.2.2.2&&(g e.1&&!g e.2.1),())) (λK=>?_) ?_
    ·cases e.2.2.2
     ·rfl
     ·rw[cond_true,if_pos n1,ae,hY g r1]
      simp only
      cases g e.1
      ·rfl
      ·rw[cond_true,if_pos n2,ae,hY g r2]
       rfl
    ·simp only
     refine eo (P:=λz=>∃ g,z=some ((bsN n g,()),())/\gR E f0 g) ((bsN n (λx=>g x||(decide (x=e.2.1)&&(e.2.2.2&&(g e.1&&!g e.2.1)))),()),((c||(e.2.2.2&&(g e.1&&!g e.2.1))),())) (λK=>?_) ?_
     ·cases hb:(e.2.2.2&&(g e.1&&!g e.2.1))
      ·rw[cond_false]
       simp
      ·rw[cond_true,if_pos n2,ae,hY g r2]
       simp only
       rw[if_pos n2]
       rw[yq g r2]
       simp
     ·simp only
      refine hk2 (m2-1) _ (by omega) ⟨j+1,_,_,rfl,by omega,?_,?_,?_,?_⟩
      ·intro i hi
       show(g i||_)=true
       rw[q1 i hi];rfl
      ·intro D hD1 hD2 i hi
       rw[aG,ag,decide_eq_true_eq,ag,ag]at hi
       rcases hi with hi|⟨rfl,h4,h5,_⟩
       ·exact q2 D hD1 hD2 i hi
       ·exact hD1 e lA h4 (q2 D hD1 hD2 _ h5)
      ·intro hc
       rw[eP]at hc
       obtain⟨hc1,hc2⟩:=hc
       obtain⟨rfl,q6⟩:=q3 hc1
       refine⟨?_,?_⟩
       ·funext x
        rw[hc2];simp
       ·intro i e2 hi he2 Ec hp
        by_cases hij:i=j
        ·subst hij
         rw[eg]at he2
         injection he2 with he2
         subst he2
         rw[Ec,hp]at hc2
         simpa using hc2
        ·exact q6 i e2 (by omega) he2 Ec hp
      ·intro hc
       cases hb:(e.2.2.2&&(g e.1&&!g e.2.1))
       ·rw[hb,jI]at hc
        refine nZ (cnt_mono n λi _ h=>?_) (q4 hc)
        rw[h];rfl
       ·have hb2:=hb
        rw[ag,ag,bz]at hb2
        have hlt:cnt (λx=>g x||(decide (x=e.2.1)&&true)) n<cnt g n:=cnt_lt (q:=e.2.1) n (λi _ h=>by simp[h]) r2 hb2.2.2 (by simp)
        have:cnt g n<=cnt f n:=cnt_mono n λi _ h=>q1 i h
        omega
   ·rw[decide_eq_false (show ¬(j:Int)<(((E.map edI).length:Nat):Int) by rw[bN];omega),cond_false]
    refine hk (cnt g n+(if c=true then 1 else 0)) _ ?_ ⟨g,c,rfl,λi h=>q1 i (h1 i h),q2,?_,rfl⟩
    ·have:cnt g n<=cnt f n:=cnt_mono n λi _ h=>q1 i h
     cases c
     ·simp;omega
     ·have:=q4 rfl
      simp;omega
    ·intro hc
     obtain⟨rfl,q6⟩:=q3 hc
     intro e he Ec hp
     obtain⟨i,hi,hie⟩:=List.getElem_of_mem he
     exact q6 i e (by omega) (by rw[ah hi,hie]) Ec hp
 ·have:∀ n,cnt f0 n<=n:=by
   intro n
   induction n with
   |zero=>exact aq _
   |succ n ih=>simp only[cnt];split <;> omega
  have:=this n
  unfold N0
  omega
end
noncomputable section
theorem w5(t:Rx):InE (2*t.len) (t.ay 0):=by
 intro e he
 obtain⟨h1,h2,h3,h4⟩:=t.dN 0 e he
 omega
theorem Nd{n:Nat}(hn:n<=100000){E:List Ed}(hE:E.length<=100000)(hin:InE n E){a b:Nat}(ha:a<n)(hb:b<n):
 Gr N0 (((n:Int),(E.map edI,((a:Int),(b:Int)))),())=some ((true,()),()):=by
 unfold Gr
 simp only
 refine aW ((),(false,())) (λK=>?_) ?_
 ·rw[decide_eq_false (show ¬(a:Int)<0 by omega),cond_false,decide_eq_false (show ¬(n:Int)<=(a:Int) by omega),cond_false,decide_eq_false (show ¬(b:Int)<0 by omega),cond_false,decide_eq_false (show ¬(n:Int)<=(b:Int) by omega)]
 ·simp only
  rw[cond_false]
  refine aZ (λm x q=>∃ j:Nat,x=((),((j:Int),()))/\m+j=E.length/\q=some ((true,()),())) ?_ N0 E.length _ _ (by unfold N0;omega) ⟨0,rfl,rfl,rfl⟩
  rintro m x q ⟨j,rfl,hm,rfl⟩ k hk
  simp only
  rcases ap j E.length with hj|hj
  ·have n0:(0:Int)<=(j:Int):=by omega
   have hj2:(E.map edI)[j]?=some (edI E[j]):=by rw[bS,ah hj];rfl
   obtain⟨r1,r2⟩:=hin _ (bo hj)
   generalize E[j]=e at hj2 r1 r2
   rw[decide_eq_true (show(j:Int)<(((E.map edI).length:Nat):Int) by rw[bN];omega),cond_true,if_pos n0,ae,hj2]
   simp only
   refine aW ((),(false,())) (λK=>?_) ?_
   ·rw[decide_eq_false (show ¬(e.1:Int)<0 by omega),cond_false,decide_eq_false (show ¬(n:Int)<=(e.1:Int) by omega),cond_false,decide_eq_false (show ¬(e.2.1:Int)<0 by omega),cond_false,decide_eq_false (show ¬(n:Int)<=(e.2.1:Int) by omega)]
   ·simp only
    rw[cond_false,dh (by omega)]
    exact hk (m-1) _ _ (by omega) ⟨j+1,rfl,by omega,rfl⟩
  ·rw[decide_eq_false (show ¬(j:Int)<(((E.map edI).length:Nat):Int) by rw[bN];omega),cond_false]
theorem AV{t:Rx}(hl:t.len<=400):Gr N0 (nfT t,())=some ((true,()),()):=by
 have h1:=t.pq 0
 have h2:=t.kJ 0
 have h3:=iP t 0
 exact Nd (n:=2*t.len) (by omega) (by omega) (w5 t) (by omega) (by omega)
def ia(E:List Ed):List (List Int):=(E.filter λe=>!e.2.2.2).map λe=>e.2.2.1
theorem w6(E:List Ed):(ia E).length<=E.length:=by
 unfold ia
 rw[bN]
 exact nX _ _
theorem Nf{n:Nat}{E:List Ed}(hE:E.length<=100000)(X:Int×Int):Ms N0 (((n:Int),(E.map edI,X)),())=some ((ia E,()),()):=by
 unfold Ms
 simp only
 refine aZ (λm x q=>∃ j:Nat,x=((),(ia (E.take j),((j:Int),())))/\m+j=E.length/\q=some ((ia E,()),())) ?_ N0 E.length _ _ (by unfold N0;omega) ⟨0,rfl,rfl,rfl⟩
 rintro m x q ⟨j,rfl,hm,rfl⟩ k hk
 simp only
 rcases ap j E.length with hj|hj
 ·have n0:(0:Int)<=(j:Int):=by omega
  have hj2:(E.map edI)[j]?=some (edI E[j]):=by rw[bS,ah hj];rfl
  have htk:E.take (j+1)=E.take j++[E[j]]:=by rw[jF,ah hj];rfl
  have hse:ia (E.take (j+1))=ia (E.take j)++ia [E[j]]:=by
   rw[htk];unfold ia;rw[n5,eD]
  have hlen:(ia (E.take j)).length<=j:=bF (w6 _) (by rw[aL];omega)
  generalize E[j]=e at hj2 hse
  rw[decide_eq_true (show(j:Int)<(((E.map edI).length:Nat):Int) by rw[bN];omega),cond_true,if_pos n0,ae,hj2]
  simp only
  refine aW ((),(ia (E.take (j+1)),())) (λK=>?_) ?_
  ·rw[hse]
   cases hb:e.2.2.2
   ·have es:ia [e]=[e.2.2.1]:=by unfold ia;simp[hb]
    have c1:((ia (E.take j)).length+([e.2.2.1]:List (List Int)).length)*32<=140737488355328:=by simp;omega
    have c2:(ia (E.take j)).length+([e.2.2.1]:List (List Int)).length<=9223372036854775807:=by simp;omega
    rw[aI,cond_true,if_pos c1,if_pos c2,es]
   ·have es:ia [e]=[]:=by unfold ia;simp[hb]
    rw[aB,cond_false,es,b9]
  ·simp only
   rw[dh (by omega)]
   exact hk (m-1) _ _ (by omega) ⟨j+1,rfl,by omega,rfl⟩
 ·have hj2:j=E.length:=by omega
  rw[decide_eq_false (show ¬(j:Int)<(((E.map edI).length:Nat):Int) by rw[bN];omega),cond_false,hj2,cK]
end
noncomputable section
theorem Ng{a b:Nat}(ha:a<18446744073709551616)(hb:b<18446744073709551616):eG .and .u64 (a:Int) (b:Int)=((a&&& b:Nat):Int):=by
 have hlt:a&&& b<2 ^ 64:=Nat.and_lt_two_pow _ hb
 simp only[eG,BitVec.toNat_and,rV ha,rV hb]
 exact wrap_u64 hlt
theorem Nh(l:Nat->Bool){c:Nat}(h:c<256):Gt N0 (ofB l,((c:Int),()))=some ((l c,()),()):=by
 unfold Gt
 have hw:c / 64<4:=by omega
 have hl:c % 64<64:=eS _ (by omega)
 have w1:IntKind.wrap .u8 (Int.tdiv (c:Int) 64)=((c / 64:Nat):Int):=by rw[Jc];exact j8 (by omega)
 have g:=jw (l:=l) hw
 have n1:¬((64:Int)=0):=by omega
 have n2:¬(((c % 64:Nat):Int)<0):=by omega
 have n3:(0:Int)<=((c / 64:Nat):Int):=by omega
 simp only[w1,Jd]
 rw[if_neg n1,if_pos n3,ae,g]
 simp only
 rw[if_neg n1,if_neg n2]
 have e1:Nat.min (Int.toNat ((c % 64:Nat):Int)) (IntKind.bits .u64)=c % 64:=by
  rw[ae];exact dr (by show c % 64<=64;omega)
 have hlt:=dX l (c / 64)
 have e2:Int.fdiv ((bw l (c / 64):Nat):Int) (2 ^ (c % 64))=((bw l (c / 64) / 2 ^ (c % 64):Nat):Int):=by
  rw[show(2:Int) ^ (c % 64)=((2 ^ (c % 64):Nat):Int) by simp]
  rw[nR _ (aQ (2 ^ (c % 64)))]
  exact(Int.natCast_ediv _ _).symm
 have e3:eG .and .u64 ((bw l (c / 64) / 2 ^ (c % 64):Nat):Int) 1=((bw l (c / 64) / 2 ^ (c % 64) % 2:Nat):Int):=by
  have:=Ng (a:=bw l (c / 64) / 2 ^ (c % 64)) (b:=1) (nZ (ri _ _) hlt) (by omega)
  rw[Nat.and_one_is_mod]at this
  exact this
 have hb:=dC l (c / 64) (c % 64)
 rw[qF,show 64*(c / 64)+c % 64=c by omega,decide_eq_true hl,bI]at hb
 have e4:decide (((bw l (c / 64) / 2 ^ (c % 64) % 2:Nat):Int)=1)=l c:=by
  rw[<-hb,decide_eq_decide];omega
 rw[e1,e2,e3,e4]
def hasB(S:List Int)(c:Nat):Bool:=((S[c / 64]?).getD 0).toNat.testBit (c % 64)
theorem qn(l:Nat->Bool){c:Nat}(h:c<256):hasB (ofB l) c=l c:=by
 unfold hasB
 rw[jw (l:=l) (show c / 64<4 by omega)]
 show(((bw l (c / 64):Nat):Int).toNat).testBit (c % 64)=l c
 rw[ae,dC,show 64*(c / 64)+c % 64=c by omega,decide_eq_true (show c % 64<64 by omega),bI]
def w7(S:List Int):Prop:=S.length=4/\∀ x∈S,0<=x/\x<=18446744073709551615
theorem AW{S:List Int}(h:w7 S){c:Nat}(hc:c<256):Gt N0 (S,((c:Int),()))=some ((hasB S c,()),()):=by
 obtain⟨l,rfl⟩:=Ea h.1 h.2
 rw[Nh l hc,qn l hc]
def a8(E:List Ed)(f:Nat->Bool)(c:Nat):Nat->Bool:=λx=>E.any λe=>!e.2.2.2&&(f e.1&&(hasB e.2.2.1 c&&decide (x=e.2.1)))
theorem P8(t:Rx)(hok:t.ok):∀ (n:Nat),∀ e∈t.ay n,w7 e.2.2.1:=by
 have hz:w7 zS:=⟨rfl,by decide⟩
 induction t with
 |eps=>intro n e he;simp[Rx.ay,fE]at he;subst he;exact hz
 |set S=>intro n e he;simp[Rx.ay]at he;subst he;exact⟨hok.1,hok.2.2⟩
 |cat a b iha ihb=>
  intro n e he
  simp only[Rx.ay,av,az,cq,or_false]at he
  rcases he with(he|he)|he|he|he
  ·exact iha hok.1 n e he
  ·exact ihb hok.2 _ e he
  all_goals subst he;exact hz
 |alt a b iha ihb=>
  intro n e he
  simp only[Rx.ay,av,az,cq,or_false]at he
  rcases he with(he|he)|he|he|he|he
  ·exact iha hok.1 n e he
  ·exact ihb hok.2 _ e he
  all_goals subst he;exact hz
 |rep k a ih=>
  intro n e he
  simp only[Rx.ay,av,az,cq,or_false]at he
  rcases he with((he|he|he)|he)|he
  ·exact ih hok.2 n e he
  ·subst he;exact hz
  ·subst he;exact hz
  ·split at he
   ·simp at he
   ·simp only[aM]at he;subst he;exact hz
  ·split at he
   ·simp at he
   ·simp only[aM]at he;subst he;exact hz
theorem Ni{n:Nat}(hn:n<=100000){E:List Ed}(hE:E.length<=100000)(hin:InE n E)(hS:∀ e∈E,w7 e.2.2.1)(X:Int×Int)(f:Nat->Bool){c:Nat}(hc:c<256):
 My N0 (((n:Int),(E.map edI,X)),(bsN n f,((c:Int),())))=some ((bsN n (a8 E f c),()),()):=by
 unfold My
 simp only
 have bG:List.replicate ((n:Int)).toNat false=bsN n (a8 [] f c):=by
  rw[ae]
  unfold bsN a8
  apply eC
  intro i
  rw[bS]
  by_cases hi:i<n
  ·rw[dS hi,kO,if_pos hi];rfl
  ·rw[bn (by rw[iq];omega),bn (by rw[kS];omega)];rfl
 rw[if_pos (show(0:Int)<=(n:Int)/\(n:Int)<=(n:Int) by omega),if_pos (show((n:Int)).toNat*1<=140737488355328 by rw[ae];omega),bG]
 refine aZ (λm x q=>∃ j:Nat,x=((bsN n (a8 (E.take j) f c),()),((j:Int),()))/\m+j=E.length/\q=some ((bsN n (a8 E f c),()),())) ?_ N0 E.length _ _ (by unfold N0;omega) ⟨0,rfl,rfl,rfl⟩
 rintro m x q ⟨j,rfl,hm,rfl⟩ k hk
 simp only
 rcases ap j E.length with hj|hj
 ·have n0:(0:Int)<=(j:Int):=by omega
  have hj2:(E.map edI)[j]?=some (edI E[j]):=by rw[bS,ah hj];rfl
  have htk:E.take (j+1)=E.take j++[E[j]]:=by rw[jF,ah hj];rfl
  obtain⟨r1,r2⟩:=hin _ (bo hj)
  have hse:=hS _ (bo hj)
  generalize E[j]=e at hj2 htk r1 r2 hse
  have hst:∀ x,a8 (E.take (j+1)) f c x=(a8 (E.take j) f c x||(!e.2.2.2&&(f e.1&&(hasB e.2.2.1 c&&decide (x=e.2.1))))):=by
   intro x
   rw[htk]
   unfold a8
   rw[List.any_append]
   simp
  have n1:(0:Int)<=(e.1:Int):=by omega
  have n2:(0:Int)<=(e.2.1:Int):=by omega
  rw[decide_eq_true (show(j:Int)<(((E.map edI).length:Nat):Int) by rw[bN];omega),cond_true,if_pos n0,ae,hj2]
  simp only
  refine aW ((bsN n (a8 (E.take j) f c),()),((!e.2.2.2&&(f e.1&&hasB e.2.2.1 c)),())) (λK=>?_) ?_
  ·cases e.2.2.2
   ·rw[aI,cond_true,decide_eq_true (show(e.1:Int)<(((bsN n f).length:Nat):Int) by rw[hP];omega),cond_true,if_pos n1,ae,hY f r1]
    simp only
    cases f e.1
    ·rfl
    ·rw[cond_true,aa (AW hse hc)]
     rfl
   ·rfl
  ·simp only
   have w1:IntKind.wrap .i64 ((j:Int)+1)=((j+1:Nat):Int):=dh (by omega)
   rw[w1]
   refine aW ((bsN n (a8 (E.take (j+1)) f c),()),()) (λK=>?_) ?_
   ·cases hb:(!e.2.2.2&&(f e.1&&hasB e.2.2.1 c))
    ·rw[cond_false]
     have:a8 (E.take (j+1)) f c=a8 (E.take j) f c:=by
      funext x
      rw[hst x]
      have:(!e.2.2.2&&(f e.1&&(hasB e.2.2.1 c&&decide (x=e.2.1))))=((!e.2.2.2&&(f e.1&&hasB e.2.2.1 c))&&decide (x=e.2.1)):=by simp[oh]
      rw[this,hb];simp
     rw[this]
    ·rw[cond_true,if_pos n2,ae,hY _ r2]
     simp only
     rw[if_pos n2,yq _ r2]
     have:a8 (E.take (j+1)) f c=λx=>a8 (E.take j) f c x||decide (x=e.2.1):=by
      funext x
      rw[hst x]
      have:(!e.2.2.2&&(f e.1&&(hasB e.2.2.1 c&&decide (x=e.2.1))))=((!e.2.2.2&&(f e.1&&hasB e.2.2.1 c))&&decide (x=e.2.1)):=by simp[oh]
      rw[this,hb];simp
     rw[this]
   ·simp only
    exact hk (m-1) _ _ (by omega) ⟨j+1,rfl,by omega,rfl⟩
 ·have hj2:j=E.length:=by omega
  rw[decide_eq_false (show ¬(j:Int)<(((E.map edI).length:Nat):Int) by rw[bN];omega),cond_false,hj2,cK]
end
noncomputable section
theorem AX(l:Nat->Bool)(w:Nat):∃ n,n=mM (λi=>l (8*w+i)) 8:=⟨_,rfl⟩
def lK(l:Nat->Bool)(w:Nat):Nat:=Classical.choose (AX l w)
theorem w9(l:Nat->Bool)(w:Nat):lK l w=mM (λi=>l (8*w+i)) 8:=Classical.choose_spec (AX l w)
theorem JA(l:Nat->Bool)(w:Nat):lK l w<256:=by rw[w9];exact uN _ 8
theorem iQ(l:Nat->Bool)(w i:Nat):(lK l w).testBit i=(decide (i<8)&&l (8*w+i)):=by rw[w9];exact wS _ 8 i
theorem GJ{l m:Nat->Bool}{w:Nat}(h:∀ i,i<8->l (8*w+i)=m (8*w+i)):lK l w=lK m w:=by
 apply gI
 intro i
 rw[iQ,iQ]
 by_cases hi:i<8
 ·rw[h i hi]
 ·simp[hi]
theorem Nj{l:Nat->Bool}{w i:Nat}(hi:i<8):lK l w|||2 ^ i=lK (λx=>l x||decide (x=8*w+i)) w:=by
 apply gI
 intro j
 rw[kY,iQ,iQ,nY]
 by_cases hj:j<8
 ·simp only[hj,decide_true,bI]
  congr 1
  rw[decide_eq_decide];omega
 ·simp only[hj,decide_false,dI,cT,decide_eq_false_iff_not];omega
theorem Ee{n:Nat}(h:n<256):(BitVec.ofInt (IntKind.bits .u8) (n:Int)).toNat=n:=by
 have:IntKind.bits .u8=8:=rfl
 rw[this,qU]
 omega
theorem Nk{a b:Nat}(ha:a<256)(hb:b<256):eG .or .u8 (a:Int) (b:Int)=((a|||b:Nat):Int):=by
 have hlt:a|||b<2 ^ 8:=qX ha hb
 simp only[eG,rh,Ee ha,Ee hb]
 exact j8 hlt
theorem Ef{i:Nat}(h:i<8):2 ^ i<256:=bA (qO (by omega) h) (by decide)
theorem AY{i:Nat}(h:i<8):IntKind.wrap .u8 ((1:Int)*2 ^ (Nat.min (Int.toNat (i:Int)) (IntKind.bits .u8)))=((2 ^ i:Nat):Int):=by
 have e:Nat.min (Int.toNat (i:Int)) (IntKind.bits .u8)=i:=by
  rw[ae];exact dr (by show i<=8;omega)
 rw[e,Int.one_mul]
 have:=j8 (Ef h)
 rw[<-this]
 congr 1
def dj(n:Nat)(l:Nat->Bool):List Int:=(List.range ((n+7) / 8)).map λw=>((lK l w:Nat):Int)
theorem lL(n:Nat)(l:Nat->Bool):(dj n l).length=(n+7) / 8:=by simp[dj]
theorem ka{n:Nat}(l:Nat->Bool){w:Nat}(h:w<(n+7) / 8):(dj n l)[w]?=some ((lK l w:Nat):Int):=by
 unfold dj
 rw[bS,dS h]
 rfl
theorem AZ{n:Nat}(l:Nat->Bool){i:Nat}(h:i<n):(dj n l).set (i / 8) (eG .or .u8 ((lK l (i / 8):Nat):Int) ((2 ^ (i % 8):Nat):Int))=dj n (λx=>l x||decide (x=i)):=by
 have hi:i % 8<8:=eS _ (by omega)
 rw[Nk (JA _ _) (Ef hi),Nj hi,show 8*(i / 8)+i % 8=i by omega]
 apply eC
 intro j
 rw[jG]
 by_cases hj:j<(n+7) / 8
 ·have g1:=ka (n:=n) (λx=>l x||decide (x=i)) hj
  have g2:=ka (n:=n) l hj
  rw[g1,g2]
  by_cases e:i / 8=j
  ·subst e
   rw[if_pos rfl,if_pos (by rw[lL];omega)]
  ·rw[if_neg e,GJ (l:=l) (m:=λx=>l x||decide (x=i)) (w:=j) λk hk=>by
    have:¬8*j+k=i:=by omega
    simp[this]]
 ·have e1:(dj n λx=>l x||decide (x=i))[j]?=none:=bn (by rw[lL];omega)
  have e2:(dj n l)[j]?=none:=bn (by rw[lL];omega)
  rw[e1,e2,if_neg (by omega)]
theorem xa(n:Nat):List.replicate ((n+7) / 8) (0:Int)=dj n (λ_=>false):=by
 apply eC
 intro j
 by_cases hj:j<(n+7) / 8
 ·rw[ka _ hj,kO,if_pos hj]
  have:lK (λ_=>false) j=0:=by
   apply gI
   intro i
   rw[iQ]
   simp
  rw[this];rfl
 ·rw[bn (by rw[iq];omega),bn (by rw[lL];omega)]
theorem nJ{n:Nat}{l m:Nat->Bool}(h:dj n l=dj n m):∀ i,i<n->l i=m i:=by
 intro i hi
 have hw:i / 8<(n+7) / 8:=by omega
 have g:(dj n l)[i / 8]?=(dj n m)[i / 8]?:=by rw[h]
 rw[ka _ hw,ka _ hw]at g
 injection g with g
 have g:lK l (i / 8)=lK m (i / 8):=by omega
 have b1:=iQ l (i / 8) (i % 8)
 have b2:=iQ m (i / 8) (i % 8)
 rw[g,b2,show 8*(i / 8)+i % 8=i by omega,decide_eq_true (show i % 8<8 by omega),bI,bI]at b1
 exact b1.symm
theorem lM{n:Nat}{l m:Nat->Bool}(h:∀ i,l i=m i):dj n l=dj n m:=by
 have:l=m:=funext h
 rw[this]
theorem Si{n:Nat}(hn:n<=100000):IntKind.wrap .i64 (Int.tdiv (IntKind.wrap .i64 ((n:Int)+7)) 8)=(((n+7) / 8:Nat):Int):=by
 have e:(n:Int)+7=((n+7:Nat):Int):=by omega
 rw[e,bJ (by omega),show(8:Int)=((8:Nat):Int) by rfl,<-kZ]
 exact bJ (by omega)
theorem td8(i:Nat)(h:i<=100000):IntKind.wrap .i64 (Int.tdiv (i:Int) 8)=((i / 8:Nat):Int):=by
 rw[show(8:Int)=((8:Nat):Int) by rfl,<-kZ]
 exact bJ (by omega)
theorem tm8(i:Nat):IntKind.wrap .u64 (Int.tmod (i:Int) 8)=((i % 8:Nat):Int):=by
 rw[show(8:Int)=((8:Nat):Int) by rfl,<-oj]
 exact wrap_u64 (by omega)
def CH(n:Nat)(f:Nat->Bool):Nat->Bool:=λx=>decide (x<n)&&f x
theorem Nl{n:Nat}(hn:n<=100000)(f:Nat->Bool):Mv N0 (bsN n f,())=some ((dj n (CH n f),()),()):=by
 unfold Mv
 have n8:¬((8:Int)=0):=by omega
 simp only[hP,Si hn]
 rw[if_neg n8,if_pos ⟨by omega,by omega⟩,if_pos (by rw[ae];omega),ae,xa]
 have e0:dj n (λ_=>false)=dj n (λx=>decide (x<0)&&f x):=lM λi=>by simp
 rw[e0]
 refine aZ (λm x q=>∃ j:Nat,x=((dj n (λx=>decide (x<j)&&f x),()),((j:Int),()))/\m+j=n/\q=some ((dj n (CH n f),()),())) ?_ N0 n _ _ (by unfold N0;omega) ⟨0,rfl,rfl,rfl⟩
 rintro m x q ⟨j,rfl,hm,rfl⟩ k hk
 simp only
 rcases ap j n with hj|hj
 ·have n0:(0:Int)<=(j:Int):=by omega
  have n1:(0:Int)<=((j / 8:Nat):Int):=by omega
  have n2:¬(((j % 8:Nat):Int)<0):=by omega
  have hw:j / 8<(n+7) / 8:=by omega
  have h8:j % 8<8:=eS _ (by omega)
  rw[decide_eq_true (show(j:Int)<(n:Int) by omega),cond_true,if_pos n0,ae,hY f hj]
  simp only
  refine aW ((dj n (λx=>decide (x<j+1)&&f x),()),()) (λK=>?_) ?_
  ·have est:∀ x,(decide (x<j+1)&&f x)=((decide (x<j)&&f x)||(decide (x=j)&&f j)):=by
    intro x
    by_cases hx:x=j
    ·subst hx
     have h1:¬x<x:=by omega
     have h2:x<x+1:=by omega
     simp[h1,h2]
    ·have:(x<j+1)↔(x<j):=by omega
     simp[this,hx]
   cases hb:f j
   ·rw[cond_false,lM (n:=n) (l:=λx=>decide (x<j+1)&&f x) (m:=λx=>decide (x<j)&&f x) λx=>by rw[est x,hb];simp]
   ·rw[cond_true,if_neg n8,td8 j (by omega),if_pos n1,ae,ka _ hw]
    simp only
    rw[if_neg n8,tm8,if_neg n2,if_pos n1]
    simp only[if_pos n1,AY h8]
    rw[AZ _ hj,lM (n:=n) (l:=λx=>decide (x<j+1)&&f x) (m:=λx=>(decide (x<j)&&f x)||decide (x=j)) λx=>by rw[est x,hb];simp]
  ·simp only
   rw[dh (by omega)]
   exact hk (m-1) _ _ (by omega) ⟨j+1,rfl,by omega,rfl⟩
 ·have:j=n:=by omega
  subst this
  rw[decide_eq_false (show ¬(j:Int)<(j:Int) by omega),cond_false]
  rfl
end
noncomputable section
def inS(dD:List (List Int))(c:Nat)(x:Nat):Bool:=hasB ((dD[x]?).getD []) c
theorem Nn{dD:List (List Int)}(hn:dD.length<=100000)(hS:∀ S∈dD,w7 S){c:Nat}(hc:c<256):Mt N0 (dD,((c:Int),()))=some ((dj dD.length (CH dD.length (inS dD c)),()),()):=by
 unfold Mt
 have n8:¬((8:Int)=0):=by omega
 simp only[Si hn]
 rw[if_neg n8,if_pos ⟨by omega,by omega⟩,if_pos (by rw[ae];omega),ae,xa]
 have e0:dj dD.length (λ_=>false)=dj dD.length (λx=>decide (x<0)&&inS dD c x):=lM λi=>by simp
 rw[e0]
 refine aZ (λm x q=>∃ j:Nat,x=((dj dD.length (λx=>decide (x<j)&&inS dD c x),()),((j:Int),()))/\m+j=dD.length/\q=some ((dj dD.length (CH dD.length (inS dD c)),()),())) ?_ N0 dD.length _ _ (by unfold N0;omega) ⟨0,rfl,rfl,rfl⟩
 rintro m x q ⟨j,rfl,hm,rfl⟩ k hk
 simp only
 rcases ap j dD.length with hj|hj
 ·have n0:(0:Int)<=(j:Int):=by omega
  have n1:(0:Int)<=((j / 8:Nat):Int):=by omega
  have n2:¬(((j % 8:Nat):Int)<0):=by omega
  have hw:j / 8<(dD.length+7) / 8:=by omega
  have h8:j % 8<8:=eS _ (by omega)
  have hj2:dD[j]?=some dD[j]:=ah hj
  have hin:inS dD c j=hasB dD[j] c:=by unfold inS;rw[hj2];rfl
  have hok:=hS _ (bo hj)
  generalize dD[j]=S at hj2 hin hok
  rw[decide_eq_true (show(j:Int)<((dD.length:Nat):Int) by omega),cond_true,if_pos n0,ae,hj2]
  simp only
  rw[aa (AW hok hc),<-hin]
  simp only
  refine aW ((dj dD.length (λx=>decide (x<j+1)&&inS dD c x),()),()) (λK=>?_) ?_
  ·have est:∀ x,(decide (x<j+1)&&inS dD c x)=((decide (x<j)&&inS dD c x)||(decide (x=j)&&inS dD c j)):=by
    intro x
    by_cases hx:x=j
    ·subst hx
     have h1:¬x<x:=by omega
     have h2:x<x+1:=by omega
     simp[h1,h2]
    ·have:(x<j+1)↔(x<j):=by omega
     simp[this,hx]
   cases hb:inS dD c j
   ·rw[cond_false,lM (n:=dD.length) (l:=λx=>decide (x<j+1)&&inS dD c x) (m:=λx=>decide (x<j)&&inS dD c x) λx=>by rw[est x,hb];simp]
   ·rw[cond_true,if_neg n8,td8 j (by omega),if_pos n1,ae,ka _ hw]
    simp only
    rw[if_neg n8,tm8,if_neg n2,if_pos n1]
    simp only[if_pos n1,AY h8]
    rw[AZ _ hj,lM (n:=dD.length) (l:=λx=>decide (x<j+1)&&inS dD c x) (m:=λx=>(decide (x<j)&&inS dD c x)||decide (x=j)) λx=>by rw[est x,hb];simp]
  ·simp only
   rw[dh (by omega)]
   exact hk (m-1) _ _ (by omega) ⟨j+1,rfl,by omega,rfl⟩
 ·have:j=dD.length:=by omega
  subst this
  rw[decide_eq_false (show ¬((dD.length:Nat):Int)<((dD.length:Nat):Int) by omega),cond_false]
  rfl
end
noncomputable section
theorem JB{α β:Type}(eq:α->α->Bool)(k:α)(v:β):∀ x:List (α×β),(ff eq k v x).length<=x.length+1:=by
 intro x
 induction x with
 |nil=>simp[ff]
 |cons p r ih=>
  simp only[ff]
  cases eq k p.1
  ·simp;exact ih
  ·simp
theorem CI(x:Int):0<=IntKind.wrap .u8 x/\IntKind.wrap .u8 x<=255:=by
 have h:=eT .u8 x
 exact⟨h.1,h.2⟩
def sO(arr:List Int):Prop:=arr.length=256/\∀ v∈arr,0<=v/\v<=255
theorem GL{arr:List Int}(h:sO arr)(i:Nat)(x:Int):sO (arr.set i (IntKind.wrap .u8 x)):=by
 refine⟨by rw[fR];exact h.1,λv hv=>?_⟩
 rcases List.mem_or_eq_of_mem_set hv with hv|rfl
 ·exact h.2 v hv
 ·exact CI x
theorem No{dD:List (List Int)}(hn:dD.length<=100000)(hS:∀ S∈dD,w7 S):∃ arr,Mu N0 (dD,())=some ((arr,()),())/\sO arr:=by
 unfold Mu
 simp only
 have hz:sO (List.replicate 256 (0:Int)):=⟨iq,λv hv=>by rw[List.mem_replicate]at hv;omega⟩
 generalize List.replicate 256 (0:Int)=zs at hz |-
 refine ew (λm x=>∃ (c:Nat) (arr:List Int) (mp:List (List Int×Int)),x=((zs,(arr,(mp,()))),((c:Int),()))/\m+c=256/\sO arr/\mp.length<=c) (λz=>∃ arr,z=some ((arr,()),())/\sO arr) ?_ N0 256 _ (by unfold N0;omega) ⟨0,zs,[],rfl,rfl,hz,aq _⟩
 rintro m x ⟨c,arr,mp,rfl,hm,ha,hmp⟩ k hk
 simp only
 rcases ap c 256 with hc|hc
 ·have n0:(0:Int)<=(c:Int):=by omega
  obtain⟨v,hv⟩:∃ v,arr[c]?=some v:=⟨arr[c]'(by rw[ha.1];exact hc),ah _⟩
  rw[decide_eq_true (show(c:Int)<256 by omega),cond_true,j8 hc,aa (Nn hn hS hc)]
  simp only
  refine qi (P:=λz=>∃ arr,z=some ((arr,()),())/\sO arr) λK hK=>?_
  have go:∀ (mp':List (List Int×Int)) (y:Int),mp'.length<=c+1->∃ r,K ((zs,(arr,(mp',()))),(y,()))=some ((r,()),())/\sO r:=by
   intro mp' y hl
   rw[hK]
   simp only
   rw[if_pos n0,ae,hv]
   simp only
   rw[if_pos n0,dh (by omega)]
   exact hk (m-1) _ (by omega) ⟨c+1,_,mp',rfl,by omega,GL ha c y,hl⟩
  generalize dj dD.length (CH dD.length (inS dD c))=key
  cases hh:fk (λv10 v11=>decide (v10=v11)) key mp
  ·have OR:xL mp=true:=by
    unfold xL maxLen
    rw[lj]
    omega
   rw[aI,cond_true,OR,cond_true]
   exact go _ _ (bF (JB _ _ _ _) (by omega))
  ·rw[aB,cond_false]
   exact go _ _ (by omega)
 ·rw[decide_eq_false (show ¬(c:Int)<256 by omega),cond_false]
  exact⟨arr,rfl,ha⟩
end
noncomputable section
def mkL(n last:Nat):List Int:=(List.range n).map λq=>if q=last then 0 else -1
theorem Eg(n last:Nat):(mkL n last).length=n:=by simp[mkL]
theorem Eh{n:Nat}(last:Nat){i:Nat}(h:i<n):(mkL n last)[i]?=some (if i=last then 0 else -1):=by
 unfold mkL
 rw[bS,dS h]
 rfl
theorem Np{n:Nat}(last:Nat){i:Nat}(h:i<n):Mw N0 (mkL n last,((i:Int),()))=some ((if i=last then 0 else -1,()),()):=by
 unfold Mw
 have n0:(0:Int)<=(i:Int):=by omega
 simp only
 rw[decide_eq_false (show ¬(((mkL n last).length:Nat):Int)<=(i:Int) by rw[Eg];omega),cond_false,if_pos n0,ae,Eh last h]
def ib(f:Nat->Bool)(last i:Nat):Int:=if f last=true/\last<i then 0 else -1
theorem Nq{n:Nat}(hn:n<=100000){last:Nat}(hl:last<n)(b)(hb:b.2.1=mkL n last)(f:Nat->Bool):Mx N0 (some b,(bsN n f,()))=some ((ib f last n,()),()):=by
 unfold Mx
 simp only[hb]
 refine aZ (λm x q=>∃ i:Nat,x=((),(ib f last i,((i:Int),())))/\m+i=n/\q=some ((ib f last n,()),())) ?_ N0 n _ _ (by unfold N0;omega) ⟨0,by rw[show ib f last 0=-1 from by unfold ib;rw[if_neg (by omega)]];rfl,rfl,rfl⟩
 rintro m x q ⟨i,rfl,hm,rfl⟩ k hk
 simp only
 rcases ap i n with hi|hi
 ·have n0:(0:Int)<=(i:Int):=by omega
  rw[decide_eq_true (show(i:Int)<(((bsN n f).length:Nat):Int) by rw[hP];omega),cond_true,if_pos n0,ae,hY f hi]
  simp only
  rw[aa (Np last hi)]
  simp only
  refine aW ((),(f i&&decide (i=last),())) (λK=>?_) ?_
  ·cases f i
   ·rfl
   ·rw[cond_true]
    by_cases e:i=last
    ·subst e
     have h1:ib f i i=-1:=by unfold ib;rw[if_neg (by omega)]
     rw[if_pos rfl,h1]
     simp
    ·rw[if_neg e]
     simp[e]
  ·simp only
   refine aW ((),(ib f last (i+1),())) (λK=>?_) ?_
   ·by_cases e:i=last
    ·subst e
     cases hf:f i
     ·have h1:ib f i i=ib f i (i+1):=by unfold ib;simp[hf]
      simp[h1]
     ·have h1:ib f i (i+1)=0:=by unfold ib;rw[if_pos ⟨hf,by omega⟩]
      simp[h1]
    ·have h1:ib f last i=ib f last (i+1):=by
      unfold ib
      have:(last<i+1)↔(last<i):=by omega
      simp[this]
     simp[e,h1]
   ·simp only
    rw[dh (by omega)]
    exact hk (m-1) _ _ (by omega) ⟨i+1,rfl,by omega,rfl⟩
 ·have:i=n:=by omega
  subst this
  rw[decide_eq_false (show ¬(i:Int)<(((bsN i f).length:Nat):Int) by rw[hP];omega),cond_false]
end
noncomputable section
theorem CJ{E:List Ed}{g:Nat->Bool}(hg:mE E g){p q:Nat}(h:Fr0 E p q)(hp:g p=true):g q=true:=by
 induction h with
 |refl=>exact hp
 |step _ he ih=>exact hg _ he rfl ih
theorem GM(t:Rx){g:Nat->Bool}(h:gR (t.ay 0) (λx=>decide (x=t.fst 0)) g):g (t.lst 0)=t.null:=by
 obtain⟨h1,h2,h3⟩:=h
 cases hn:t.null
 ·have hle:=h3 (t.cl 0) (λe he hf hp=>t.DW 0 e he hf hp) (λx hx=>by
   rw[decide_eq_true_eq]at hx
   rw[hx];exact t.nG 0)
  cases hg:g (t.lst 0)
  ·rfl
  ·have:=hle _ hg
   rw[t.rS,hn]at this
   cases this
 ·exact CJ h2 (t.I8 0 hn) (h1 _ (by simp))
theorem eY{E:List Ed}{f g g':Nat->Bool}(h:gR E f g)(h':gR E f g'):g=g':=by
 funext x
 cases hg:g x
 ·cases hg':g' x
  ·rfl
  ·have:=h'.2.2 g h.2.1 h.1 x hg'
   rw[hg]at this;cases this
 ·exact(h.2.2 g' h'.2.1 h'.1 x hg).symm
def fD(E:List Ed):List Nat:=(E.filter λe=>!e.2.2.2).map λe=>e.2.1
def onT(E:List Ed)(f:Nat->Bool):List Bool:=(fD E).map f
theorem oL{E:List Ed}{f:Nat->Bool}{c x:Nat}(h:a8 E f c x=true):x∈fD E:=by
 unfold a8 at h
 rw[gL]at h
 obtain⟨e,he,h⟩:=h
 simp only[ag,bz,decide_eq_true_eq]at h
 obtain⟨h1,_,_,h2⟩:=h
 unfold fD
 rw[gN]
 exact⟨e,od.2 ⟨he,by simp[h1]⟩,h2.symm⟩
theorem sb{E:List Ed}{f f':Nat->Bool}{c c':Nat}(h:onT E (a8 E f c)=onT E (a8 E f' c')):a8 E f c=a8 E f' c':=by
 have key:∀ x,x∈fD E->a8 E f c x=a8 E f' c' x:=by
  unfold onT at h
  intro x hx
  exact List.map_inj_left.1 h x hx
 funext x
 cases h1:a8 E f c x
 ·cases h2:a8 E f' c' x
  ·rfl
  ·have:=key x (oL h2)
   rw[h1,h2]at this;exact this
 ·have:=key x (oL h1)
  rw[h1]at this;exact this
def Sj(E:List Ed)(f0 g:Nat->Bool):Prop:=gR E f0 g\/∃ f c,gR E (a8 E f c) g
theorem qo(E:List Ed)(f:Nat->Bool):(onT E f).length=(fD E).length:=by simp[onT]
theorem Nr{E:List Ed}{f0:Nat->Bool}(l:List (Nat->Bool))(hn:l.Nodup)(h:∀ g∈l,Sj E f0 g):l.length<=2 ^ (fD E).length+1:=by
 refine rR (λ(g:Nat->Bool) (k:Nat)=>(k=0/\gR E f0 g)\/(0<k/\∃ f c,gR E (a8 E f c) g/\k=dK (onT E (a8 E f c))+1)) ?_ (2 ^ (fD E).length+1) l hn ?_
 ·rintro x y k (⟨hk,hx⟩|⟨hk,f,c,hx,e⟩) (⟨hk',hy⟩|⟨hk',f',c',hy,e'⟩)
  ·exact eY hx hy
  ·omega
  ·omega
  ·have hb:dK (onT E (a8 E f c))=dK (onT E (a8 E f' c')):=by omega
   have:=oH _ _ (by rw[qo,qo]) hb
   have:=sb this
   rw[this]at hx
   exact eY hx hy
 ·intro g hg
  rcases h g hg with hg|⟨f,c,hg⟩
  ·exact⟨0,Nat.succ_pos _,.inl ⟨rfl,hg⟩⟩
  ·have:=lI (onT E (a8 E f c))
   rw[qo]at this
   exact⟨_,by omega,.inr ⟨by omega,f,c,hg,rfl⟩⟩
end
noncomputable section
def Rx.dy:Rx->Nat
 |.eps=>0
 |.set _=>1
 |.cat a b=>a.dy+b.dy
 |.alt a b=>a.dy+b.dy
 |.rep _ a=>a.dy
theorem ic(E E':List Ed):fD (E++E')=fD E++fD E':=by unfold fD;rw[n5,eD]
theorem uT:∀ (t:Rx) (n:Nat),(fD (t.ay n)).length=t.dy:=by
 intro t
 induction t with
 |eps=>intro n;rfl
 |set S=>intro n;rfl
 |cat a b iha ihb=>
  intro n
  simp only[Rx.ay,ic,ak,iha,ihb,Rx.dy]
  rfl
 |alt a b iha ihb=>
  intro n
  simp only[Rx.ay,ic,ak,iha,ihb,Rx.dy]
  rfl
 |rep k a ih=>
  intro n
  simp only[Rx.ay,ic,ak,ih,Rx.dy]
  split <;> split <;> rfl
end
noncomputable section
def sd(S:List Int):Prop:=S=ofB (λ_=>true)\/∃ c:Int,S=ofB (rT c)
def Rx.pw:Rx->Nat
 |.cat ..=>2
 |.alt ..=>2
 |_=>0
def Rx.cw:Rx->Nat
 |.alt ..=>2
 |_=>0
open Classical in
def Rx.wt:Rx->Nat
 |.eps=>1
 |.set S=>if sd S then 1 else 2
 |.cat a b=>a.wt+a.cw+(b.wt+b.pw)
 |.alt a b=>a.wt+(b.wt+b.cw)+1
 |.rep _ a=>a.wt+a.pw+1
theorem Rx.P9:Rx.wt .eps=1:=by rw[Rx.wt]
theorem Rx.yr(a b:Rx):(Rx.cat a b).wt=a.wt+a.cw+(b.wt+b.pw):=by rw[Rx.wt]
theorem Rx.uU(a b:Rx):(Rx.alt a b).wt=a.wt+(b.wt+b.cw)+1:=by rw[Rx.wt]
theorem Rx.yu(k:Int)(a:Rx):(Rx.rep k a).wt=a.wt+a.pw+1:=by rw[Rx.wt]
theorem Rx.Qa(k:Int)(a:Rx):(Rx.rep k a).pw=0:=rfl
theorem Rx.JC(a b:Rx):(Rx.cat a b).cw=0:=rfl
theorem Rx.Qb(k:Int)(a:Rx):(Rx.rep k a).cw=0:=rfl
theorem Rx.Qc(a b:Rx):(Rx.alt a b).cw=2:=rfl
theorem Rx.Sk:∀ t:Rx,t.pw<=2:=by intro t;cases t <;> simp[Rx.pw]
def Wo(i:Nat)(o:Option (Rx×Nat)):Prop:=∀ t j,o=some (t,j)->t.wt+i<=j
def WoP(i:Nat)(o:Option (Rx×Nat)):Prop:=∀ t j,o=some (t,j)->t.wt+t.pw+i<=j
def WoC(i:Nat)(o:Option (Rx×Nat)):Prop:=∀ t j,o=some (t,j)->t.wt+t.cw+i<=j
theorem Ns{s:List Int}(hb:Bytes s){inner:Nat->Nat->Option (Rx×Nat)}{i d:Nat}(hin:Wo (i+1) (inner (i+1) (d+1))):WoP i (mQ inner s i d):=by
 intro t j h
 unfold mQ at h
 split at h
 ·cases h
 split at h
 ·injection h with h;injection h with h1 h2;subst h1;subst h2;simp only[Rx.wt,Rx.pw,if_pos (show sd (ofB λ_=>true)from .inl rfl)];omega
 split at h
 ·injection h with h;injection h with h1 h2;subst h1;subst h2;simp only[Rx.wt,Rx.pw];omega
 split at h
 ·have hr:=(D5 hb (show i+1-1<i+1 by omega) t j h).1
  rw[yl]at h
  unfold nH at h
  split at h
  ·cases h
  rename_i l k hl
  generalize (if fm s (i+1) 94=true then λx=>!l x else l)=l' at h
  split at h
  ·cases h
  injection h with h
  injection h with h1 h2
  subst h1
  have hk:=D4 hb _ _ _ _ _ hl
  have hk2:i+1<=k:=by
   refine bF ?_ hk
   split <;> omega
  have hw:Rx.wt (.set (ofB l'))<=2:=by simp only[Rx.wt];split <;> omega
  simp only[Rx.pw]
  omega
 split at h
 ·split at h
  ·cases h
  split at h
  ·cases h
  rename_i t2 j2 hi2
  have:=hin _ _ hi2
  have:=t2.Sk
  split at h
  ·injection h with h;injection h with h1 h2;subst h1;subst h2;omega
  ·cases h
 split at h
 ·cases h
 rename_i c n hrd
 obtain⟨h1,h2,h3⟩:=kL (hb.drop i) hrd
 injection h with h;injection h with h4 h5;subst h4;subst h5
 simp only[Rx.wt,Rx.pw,if_pos (show sd (ofB (rT c))from .inr ⟨c,rfl⟩)];omega
theorem Nt{s:List Int}:∀ (m i0 i:Nat) (t0 t:Rx) (j:Nat),t0.wt+t0.pw+i0<=i->rU s m i t0=some (t,j)->t.wt+t.pw+i0<=j:=by
 intro m
 induction m with
 |zero=>intro i0 i t0 t j _ h;cases h
 |succ m ih=>
  intro i0 i t0 t j hr h
  simp only[rU]at h
  split at h
  ·exact ih i0 (i+1) _ t j (by rw[Rx.yu,Rx.Qa];omega) h
  ·injection h with h;injection h with h1 h2;subst h1;subst h2;exact hr
theorem Ei{s:List Int}(hb:Bytes s){inner:Nat->Nat->Option (Rx×Nat)}{i d:Nat}(hin:Wo (i+1) (inner (i+1) (d+1))):WoP i (kK inner s i d):=by
 intro t j h
 unfold kK at h
 split at h
 ·cases h
 rename_i t0 i0 h0
 exact Nt _ i i0 t0 t j (Ns hb hin _ _ h0) h
theorem Sl(t:Rx):t.cw<=t.pw:=by cases t <;> simp[Rx.cw,Rx.pw]
theorem Nu{s:List Int}(hb:Bytes s){inner:Nat->Nat->Option (Rx×Nat)}{d:Nat}(hin:∀ i d,Wo i (inner i d)):∀ (m i0 i:Nat) (t0 t:Rx) (j:Nat),t0.wt+t0.cw+i0<=i->tb inner s d m i t0=some (t,j)->t.wt+t.cw+i0<=j:=by
 intro m
 induction m with
 |zero=>intro i0 i t0 t j _ h;cases h
 |succ m ih=>
  intro i0 i t0 t j hr h
  simp only[tb]at h
  split at h
  ·split at h
   ·cases h
   rename_i t2 j2 h2
   have:=Ei hb (hin (i+1) (d+1)) _ _ h2
   exact ih i0 j2 _ t j (by rw[Rx.yr,Rx.JC];omega) h
  ·injection h with h;injection h with h1 h2;subst h1;subst h2;exact hr
theorem Ej{s:List Int}(hb:Bytes s){inner:Nat->Nat->Option (Rx×Nat)}{i d:Nat}(hin:∀ i d,Wo i (inner i d)):WoC i (lJ inner s i d):=by
 intro t j h
 unfold lJ at h
 split at h
 ·cases h
 rename_i t0 i0 h0
 have h1:=Ei hb (hin (i+1) (d+1)) _ _ h0
 have h2:=Sl t0
 exact Nu hb hin _ i i0 t0 t j (by omega) h
theorem Nv{s:List Int}(hb:Bytes s){inner:Nat->Nat->Option (Rx×Nat)}{d:Nat}(hin:∀ i d,Wo i (inner i d)):∀ (m i0 i:Nat) (t0 t:Rx) (j:Nat),t0.wt+i0<=i->tc inner s d m i t0=some (t,j)->t.wt+i0<=j:=by
 intro m
 induction m with
 |zero=>intro i0 i t0 t j _ h;cases h
 |succ m ih=>
  intro i0 i t0 t j hr h
  simp only[tc]at h
  split at h
  ·split at h
   ·cases h
   rename_i t2 j2 h2
   have:=Ej hb hin _ _ h2
   exact ih i0 j2 _ t j (by rw[Rx.uU];omega) h
  ·injection h with h;injection h with h1 h2;subst h1;subst h2;exact hr
theorem Nw{s:List Int}(hb:Bytes s):∀ (n i d:Nat),Wo i (km s n i d):=by
 intro n
 induction n with
 |zero=>intro i d t j h;cases h
 |succ n ih=>
  intro i d t j h
  simp only[km,Cz]at h
  split at h
  ·cases h
  rename_i t0 i0 h0
  have:=Ej hb ih _ _ h0
  exact Nv hb ih _ i i0 t0 t j (by omega) h
theorem GN{s:List Int}(hb:Bytes s){t:Rx}(h:gk s=.ok t):t.wt<=s.length:=by
 unfold gk at h
 split at h
 ·cases h
 split at h
 ·cases h
 rename_i t2 i ho
 have h1:=Nw hb _ _ _ _ _ ho
 obtain⟨_,h2,_,_⟩:=j9 hb _ _ _ (by omega) _ _ ho
 split at h
 ·cases h
 split at h
 ·cases h
 injection h with h
 subst h
 omega
theorem Rx.ga:∀ t:Rx,t.dy<=t.wt:=by
 intro t
 induction t with
 |eps=>simp[Rx.dy]
 |set S=>simp only[Rx.dy,Rx.wt];split <;> omega
 |cat a b iha ihb=>rw[Rx.yr];simp only[Rx.dy];omega
 |alt a b iha ihb=>rw[Rx.uU];simp only[Rx.dy];omega
 |rep k a ih=>rw[Rx.yu];simp only[Rx.dy];omega
end
noncomputable section
def Rx.lin:Rx->Bool
 |.eps=>true
 |.set _=>true
 |.cat a b=>a.lin&&b.lin
 |_=>false
def Rx.lf:Rx->Bool
 |.eps=>false
 |.set _=>true
 |.cat a _=>a.lf
 |.alt a _=>a.lf
 |.rep k a=>decide (k=6)&&a.lf
inductive Rx.Lq:Rx->Prop
 |rep {k:Int} {S:List Int} (hk:k≠6) (hS:sd S):Rx.Lq (.rep k (.set S))
 |cat {a:Rx} {S:List Int} (h:Rx.Lq a):Rx.Lq (.cat a (.set S))
theorem uV:∀ t:Rx,t.wt<=t.dy->t.lf=true/\t.lin=true/\(t.pw=0->∃ S,sd S/\t=.set S):=by
 intro t
 induction t with
 |eps=>intro h;rw[Rx.P9]at h;simp[Rx.dy]at h
 |set S=>
  intro h
  simp only[Rx.wt,Rx.dy]at h
  split at h
  ·rename_i hS;exact⟨rfl,rfl,λ_=>⟨S,hS,rfl⟩⟩
  ·omega
 |cat a b iha ihb=>
  intro h
  rw[Rx.yr]at h
  simp only[Rx.dy]at h
  have h1:=a.ga
  have h2:=b.ga
  obtain⟨i1,i2,_⟩:=iha (by omega)
  obtain⟨j1,j2,_⟩:=ihb (by omega)
  exact⟨i1,by simp[Rx.lin,i2,j2],λh=>by simp[Rx.pw]at h⟩
 |alt a b iha ihb=>
  intro h
  rw[Rx.uU]at h
  simp only[Rx.dy]at h
  have h1:=a.ga
  have h2:=b.ga
  omega
 |rep k a ih=>
  intro h
  rw[Rx.yu]at h
  simp only[Rx.dy]at h
  have h1:=a.ga
  omega
theorem tt:∀ t:Rx,t.wt+t.cw<=t.dy+1->t.lin=true\/t.lf=true\/t.Lq:=by
 intro t
 induction t with
 |eps=>intro _;exact .inl rfl
 |set S=>intro _;exact .inl rfl
 |cat a b iha ihb=>
  intro h
  rw[Rx.yr,Rx.JC]at h
  simp only[Rx.dy]at h
  have h1:=a.ga
  have h2:=b.ga
  by_cases ha:a.wt<=a.dy
  ·exact .inr (.inl (uV a ha).1)
  ·obtain⟨_,j2,j3⟩:=uV b (by omega)
   obtain⟨S,hS,rfl⟩:=j3 (by omega)
   rcases iha (by omega)with i|i|i
   ·exact .inl (by simp[Rx.lin,i])
   ·exact .inr (.inl i)
   ·exact .inr (.inr (.cat i))
 |alt a b iha ihb=>
  intro h
  rw[Rx.uU,Rx.Qc]at h
  simp only[Rx.dy]at h
  have h1:=a.ga
  have h2:=b.ga
  omega
 |rep k a ih=>
  intro h
  rw[Rx.yu,Rx.Qb]at h
  simp only[Rx.dy]at h
  have h1:=a.ga
  obtain⟨i1,_,i3⟩:=uV a (by omega)
  obtain⟨S,hS,rfl⟩:=i3 (by omega)
  by_cases hk:k=6
  ·exact .inr (.inl (by simp[Rx.lf,hk]))
  ·exact .inr (.inr (.rep hk hS))
theorem Qd(t:Rx)(h:t.wt<=t.dy+1):t.lin=true\/t.lf=true\/t.Lq:=by
 cases t with
 |alt a b=>
  rw[Rx.uU]at h
  simp only[Rx.dy]at h
  have h1:=a.ga
  have h2:=b.ga
  exact .inr (.inl (uV a (by omega)).1)
 |eps=>exact tt _ (by simpa [Rx.cw]using h)
 |set S=>exact tt _ (by simpa [Rx.cw]using h)
 |cat a b=>exact tt _ (by simpa [Rx.cw]using h)
 |rep k a=>exact tt _ (by simpa [Rx.cw]using h)
def Rx.lvl:Rx->Nat->Nat->Nat
 |.set _,n,q=>if q=n then 0 else 1
 |.cat a b,n,q=>if q<n+2*a.len then a.lvl n q else if q<n+2*(a.len+b.len)then a.dy+b.lvl (n+2*a.len) q else if q=n+2*(a.len+b.len)then 0 else a.dy+b.dy
 |_,_,_=>0
theorem Rx.yv:∀ (t:Rx) (n:Nat),t.lvl n (t.fst n)=0:=by
 intro t n
 have:=t.bL
 cases t with
 |set S=>simp[Rx.lvl,Rx.fst,Rx.len]
 |cat a b=>
  have e:(Rx.cat a b).fst n=n+2*(a.len+b.len):=by simp only[Rx.fst,Rx.len];omega
  have ha:=a.bL
  rw[e,Rx.lvl,if_neg (by omega),if_neg (by omega),if_pos rfl]
 |_=>rfl
theorem Rx.Ek:∀ (t:Rx) (n:Nat),t.lin=true->t.lvl n (t.lst n)=t.dy:=by
 intro t n h
 have:=t.bL
 cases t with
 |set S=>simp[Rx.lvl,Rx.lst,Rx.len,Rx.dy]
 |eps=>rfl
 |cat a b=>
  have e:(Rx.cat a b).lst n=n+2*(a.len+b.len)+1:=by simp only[Rx.lst,Rx.len];omega
  have ha:=a.bL
  rw[e,Rx.lvl,if_neg (by omega),if_neg (by omega),if_neg (by omega),Rx.dy]
 |alt a b=>cases h
 |rep k a=>cases h
theorem Rx.Ba:∀ (t:Rx) (n:Nat),t.lin=true->∀ e∈t.ay n,t.lvl n e.2.1=t.lvl n e.1+(if e.2.2.2=true then 0 else 1):=by
 intro t
 induction t with
 |eps=>intro n _ e he;simp[Rx.ay,fE]at he;subst he;simp[Rx.lvl]
 |set S=>intro n _ e he;simp[Rx.ay]at he;subst he;simp[Rx.lvl]
 |alt a b=>intro n h;cases h
 |rep k a=>intro n h;cases h
 |cat a b iha ihb=>
  intro n h e he
  simp only[Rx.lin,ag]at h
  have ha:=a.bL
  have hb:=b.bL
  simp only[Rx.ay,av,az,cq,or_false]at he
  rcases he with(he|he)|he|he|he
  ·have hi:=a.dN n e he
   simp only[Rx.lvl]
   rw[if_pos (by omega),if_pos (by omega),iha n h.1 e he]
  ·have hi:=b.dN _ e he
   simp only[Rx.lvl]
   rw[if_neg (by omega),if_pos (by omega),if_neg (by omega),if_pos (by omega),ihb _ h.2 e he]
   omega
  ·subst he
   have hi:=a.pq n
   have hz:=a.yv n
   show(Rx.cat a b).lvl n (a.fst n)=(Rx.cat a b).lvl n (n+2*(a.len+b.len))+0
   simp only[Rx.lvl]
   rw[if_pos (show a.fst n<n+2*a.len by omega),if_neg (by omega),if_neg (by omega),if_true,hz]
  ·subst he
   have hi:=a.kJ n
   have hi2:=b.pq (n+2*a.len)
   have hz:=a.Ek n h.1
   have hz2:=b.yv (n+2*a.len)
   show(Rx.cat a b).lvl n (b.fst (n+2*a.len))=(Rx.cat a b).lvl n (a.lst n)+0
   simp only[Rx.lvl]
   rw[if_neg (show ¬b.fst (n+2*a.len)<n+2*a.len by omega),if_pos (by omega),if_pos (by omega),hz,hz2]
  ·subst he
   have hi2:=b.kJ (n+2*a.len)
   have hz2:=b.Ek (n+2*a.len) h.2
   show(Rx.cat a b).lvl n (n+2*(a.len+b.len)+1)=(Rx.cat a b).lvl n (b.lst (n+2*a.len))+0
   simp only[Rx.lvl]
   rw[if_neg (by omega),if_neg (by omega),if_neg (by omega),if_neg (show ¬b.lst (n+2*a.len)<n+2*a.len by omega),if_pos (by omega),hz2]
   omega
theorem Rx.El:∀ (t:Rx) (n:Nat),t.lin=true->∀ x∈fD (t.ay n),0<t.lvl n x/\t.lvl n x<=t.dy/\∀ y∈fD (t.ay n),t.lvl n x=t.lvl n y->x=y:=by
 intro t
 induction t with
 |eps=>intro n _ x hx;simp[Rx.ay,fD,fE]at hx
 |set S=>
  intro n _ x hx
  simp[Rx.ay,fD]at hx
  subst hx
  refine⟨by simp[Rx.lvl],by simp[Rx.lvl,Rx.dy],λy hy _=>?_⟩
  simp[Rx.ay,fD]at hy
  exact hy.symm
 |alt a b=>intro n h;cases h
 |rep k a=>intro n h;cases h
 |cat a b iha ihb=>
  intro n h x hx
  simp only[Rx.lin,ag]at h
  have ha:=a.bL
  have hb:=b.bL
  have hin:∀ (t:Rx) (m x:Nat),x∈fD (t.ay m)->m<=x/\x<m+2*t.len:=by
   intro t m x hx
   unfold fD at hx
   obtain⟨e,he,rfl⟩:=gN.1 hx
   have:=t.dN m e (od.1 he).1
   omega
  have hT:fD ((Rx.cat a b).ay n)=fD (a.ay n)++fD (b.ay (n+2*a.len)):=by
   simp only[Rx.ay,ic]
   simp[fD,fE]
  have la:∀ x,x∈fD (a.ay n)->(Rx.cat a b).lvl n x=a.lvl n x:=λx hx=>by
   have:=hin a n x hx
   rw[Rx.lvl,if_pos (by omega)]
  have lb:∀ x,x∈fD (b.ay (n+2*a.len))->(Rx.cat a b).lvl n x=a.dy+b.lvl (n+2*a.len) x:=λx hx=>by
   have:=hin b _ x hx
   rw[Rx.lvl,if_neg (by omega),if_pos (by omega)]
  rw[hT]at hx |-
  simp only[Rx.dy]
  rcases av.1 hx with hx|hx
  ·obtain⟨q1,q2,q3⟩:=iha n h.1 x hx
   rw[la x hx]
   refine⟨q1,by omega,λy hy hxy=>?_⟩
   rcases av.1 hy with hy|hy
   ·rw[la y hy]at hxy;exact q3 y hy hxy
   ·rw[lb y hy]at hxy
    have:=(ihb _ h.2 y hy).1
    omega
  ·obtain⟨q1,q2,q3⟩:=ihb _ h.2 x hx
   rw[lb x hx]
   refine⟨by omega,by omega,λy hy hxy=>?_⟩
   rcases av.1 hy with hy|hy
   ·rw[la y hy]at hxy
    have:=(iha n h.1 y hy).2.1
    omega
   ·rw[lb y hy]at hxy;exact q3 y hy (by omega)
def Rx.pre:Rx->Nat->Nat->Bool
 |.eps,n,q=>decide (q=n)
 |.set _,n,q=>decide (q=n)
 |.cat a b,n,q=>decide (q=n+2*(a.len+b.len))||a.pre n q
 |.alt a b,n,q=>decide (q=n+2*(a.len+b.len))||a.pre n q
 |.rep k a,n,q=>decide (q=n+2*a.len)||(decide (k=6)&&a.pre n q)
theorem Rx.pt:∀ (t:Rx) (n q:Nat),t.pre n q=true->n<=q/\q<n+2*t.len:=by
 intro t
 induction t with
 |eps=>intro n q h;simp only[Rx.pre,decide_eq_true_eq]at h;simp only[Rx.len];omega
 |set S=>intro n q h;simp only[Rx.pre,decide_eq_true_eq]at h;simp only[Rx.len];omega
 |cat a b iha ihb=>
  intro n q h
  simp only[Rx.pre,aG,decide_eq_true_eq]at h
  simp only[Rx.len]
  rcases h with h|h
  ·omega
  ·have:=iha n q h;omega
 |alt a b iha ihb=>
  intro n q h
  simp only[Rx.pre,aG,decide_eq_true_eq]at h
  simp only[Rx.len]
  rcases h with h|h
  ·omega
  ·have:=iha n q h;omega
 |rep k a ih=>
  intro n q h
  simp only[Rx.pre,aG,ag,decide_eq_true_eq]at h
  simp only[Rx.len]
  rcases h with h|h
  ·omega
  ·have:=ih n q h.2;omega
theorem Rx.JD:∀ (t:Rx) (n:Nat),∀ e∈t.ay n,t.pre n e.2.1=true->e.2.2.2=true/\t.pre n e.1=true:=by
 intro t
 induction t with
 |eps=>intro n e he h;simp[Rx.ay,fE]at he;subst he;simp[Rx.pre]at h
 |set S=>intro n e he h;simp[Rx.ay]at he;subst he;simp[Rx.pre]at h
 |cat a b iha ihb=>
  intro n e he h
  have ha:=a.bL
  have hb:=b.bL
  simp only[Rx.ay,av,az,cq,or_false]at he
  simp only[Rx.pre,aG,decide_eq_true_eq]at h |-
  rcases he with(he|he)|he|he|he
  ·have hi:=a.dN n e he
   obtain⟨q1,q2⟩:=iha n e he (h.resolve_left (by omega))
   exact⟨q1,.inr q2⟩
  ·have hi:=b.dN _ e he
   rcases h with h|h
   ·omega
   ·have:=a.pt n _ h;omega
  ·subst he;exact⟨rfl,.inl rfl⟩
  ·subst he
   have hi:=b.pq (n+2*a.len)
   rcases h with h|h
   ·simp only[fE]at h;omega
   ·have:=a.pt n _ h;simp only[fE]at this;omega
  ·subst he
   rcases h with h|h
   ·simp only[fE]at h;omega
   ·have:=a.pt n _ h;simp only[fE]at this;omega
 |alt a b iha ihb=>
  intro n e he h
  have ha:=a.bL
  have hb:=b.bL
  simp only[Rx.ay,av,az,cq,or_false]at he
  simp only[Rx.pre,aG,decide_eq_true_eq]at h |-
  rcases he with(he|he)|he|he|he|he
  ·have hi:=a.dN n e he
   obtain⟨q1,q2⟩:=iha n e he (h.resolve_left (by omega))
   exact⟨q1,.inr q2⟩
  ·have hi:=b.dN _ e he
   rcases h with h|h
   ·omega
   ·have:=a.pt n _ h;omega
  ·subst he;exact⟨rfl,.inl rfl⟩
  ·subst he
   rcases h with h|h
   ·simp only[fE]at h;omega
   ·have:=a.pt n _ h;simp only[fE]at this;omega
  ·subst he;exact⟨rfl,.inl rfl⟩
  ·subst he
   rcases h with h|h
   ·simp only[fE]at h;omega
   ·have:=a.pt n _ h;simp only[fE]at this;omega
 |rep k a ih=>
  intro n e he h
  have ha:=a.bL
  simp only[Rx.ay,av,az,cq,or_false]at he
  simp only[Rx.pre,aG,ag,decide_eq_true_eq]at h |-
  rcases he with((he|he|he)|he)|he
  ·have hi:=a.dN n e he
   have h:=h.resolve_left (by omega)
   obtain⟨q1,q2⟩:=ih n e he h.2
   exact⟨q1,.inr ⟨h.1,q2⟩⟩
  ·subst he;exact⟨rfl,.inl rfl⟩
  ·subst he
   rcases h with h|h
   ·simp only[fE]at h;omega
   ·have:=a.pt n _ h.2;simp only[fE]at this;omega
  ·split at he
   ·simp at he
   ·rename_i hk
    simp only[aM]at he
    subst he
    rcases h with h|h
    ·have:=a.pq n;simp only[fE]at h;omega
    ·exact absurd h.1 hk
  ·split at he
   ·simp at he
   ·simp only[aM]at he
    subst he
    exact⟨rfl,.inl rfl⟩
theorem Rx.JF:∀ (t:Rx) (n:Nat),t.lf=true->∃ r,fD (t.ay n)=(n+1)::r/\t.pre n n=true/\∀ e∈t.ay n,e.2.2.2=false->e.2.1=n+1->e.1=n:=by
 intro t
 induction t with
 |eps=>intro n h;cases h
 |set S=>intro n _;exact⟨[],rfl,by simp[Rx.pre],λe he _ _=>by simp[Rx.ay]at he;subst he;rfl⟩
 |cat a b iha ihb=>
  intro n h
  have ha:=a.bL
  obtain⟨r,q1,q2,q3⟩:=iha n h
  refine⟨r++fD (b.ay (n+2*a.len)),?_,by simp[Rx.pre,q2],λe he hf ht=>?_⟩
  ·simp only[Rx.ay,ic,q1];simp[fD,fE]
  ·simp only[Rx.ay,av,az,cq,or_false]at he
   rcases he with(he|he)|he|he|he
   ·exact q3 e he hf ht
   ·have:=b.dN _ e he;omega
   all_goals (subst he;cases hf)
 |alt a b iha ihb=>
  intro n h
  have ha:=a.bL
  obtain⟨r,q1,q2,q3⟩:=iha n h
  refine⟨r++fD (b.ay (n+2*a.len)),?_,by simp[Rx.pre,q2],λe he hf ht=>?_⟩
  ·simp only[Rx.ay,ic,q1];simp[fD,fE]
  ·simp only[Rx.ay,av,az,cq,or_false]at he
   rcases he with(he|he)|he|he|he|he
   ·exact q3 e he hf ht
   ·have:=b.dN _ e he;omega
   all_goals (subst he;cases hf)
 |rep k a ih=>
  intro n h
  simp only[Rx.lf,ag,decide_eq_true_eq]at h
  obtain⟨rfl,h⟩:=h
  obtain⟨r,q1,q2,q3⟩:=ih n h
  refine⟨r,?_,by simp[Rx.pre,q2],λe he hf ht=>?_⟩
  ·simp only[Rx.ay,ic,q1];simp[fD,fE]
  ·simp only[Rx.ay,av,az,cq,or_false]at he
   rcases he with((he|he|he)|he)|he
   ·exact q3 e he hf ht
   ·subst he;cases hf
   ·subst he;cases hf
   ·simp at he
   ·simp at he;subst he;cases hf
end
noncomputable section
inductive Rch(t:Rx):(Nat->Bool)->Prop
 |ini {g:Nat->Bool} (h:gR (t.ay 0) (λx=>decide (x=t.fst 0)) g):Rch t g
 |step {f g:Nat->Bool} {c:Nat} (hc:c<256) (hf:Rch t f) (h:gR (t.ay 0) (a8 (t.ay 0) f c) g):Rch t g
theorem fA{E:List Ed}{f:Nat->Bool}{c x:Nat}:a8 E f c x=true↔∃ e∈E,e.2.2.2=false/\f e.1=true/\hasB e.2.2.1 c=true/\x=e.2.1:=by
 unfold a8
 rw[gL]
 simp only[ag,bz,decide_eq_true_eq]
theorem Rch.Vm{t:Rx}{g:Nat->Bool}(h:Rch t g):Sj (t.ay 0) (λx=>decide (x=t.fst 0)) g:=by
 cases h with
 |ini h=>exact .inl h
 |step _ _ h=>exact .inr ⟨_,_,h⟩
theorem Rch.lvl{t:Rx}(hl:t.lin=true){g:Nat->Bool}(h:Rch t g):∃ m,∀ q,g q=true->t.lvl 0 q=m:=by
 have clo:∀ m,mE (t.ay 0) (λq=>decide (t.lvl 0 q=m)):=by
  intro m e he hf h
  have:=t.Ba 0 hl e he
  rw[hf]at this
  simp only[decide_eq_true_eq]at h |-
  simp at this
  omega
 induction h with
 |ini h=>
  refine⟨0,λq hq=>?_⟩
  have:=h.2.2 _ (clo 0) (λx hx=>by
   rw[decide_eq_true_eq]at hx
   subst hx
   simpa using t.yv 0) q hq
  simpa using this
 |step hc hf h ih=>
  obtain⟨m,ih⟩:=ih
  refine⟨m+1,λq hq=>?_⟩
  have:=h.2.2 _ (clo (m+1)) (λx hx=>by
   obtain⟨e,he,h1,h2,_,rfl⟩:=fA.1 hx
   have:=t.Ba 0 hl e he
   rw[h1,ih _ h2]at this
   simpa using this) q hq
  simpa using this
theorem JG{t:Rx}(hl:t.lin=true)(l:List (Nat->Bool))(hn:l.Nodup)(h:∀ g∈l,Rch t g):l.length<=t.dy+3:=by
 refine rR (λ(g:Nat->Bool) (k:Nat)=>(k=0/\gR (t.ay 0) (λx=>decide (x=t.fst 0)) g)\/(k=1/\gR (t.ay 0) (λ_=>false) g)\/
  (∃ f x,gR (t.ay 0) f g/\x∈fD (t.ay 0)/\(∀ y,f y=true↔y=x)/\k=t.lvl 0 x+2)) ?_ (t.dy+3) l hn ?_
 ·rintro a b k (⟨rfl,h1⟩|⟨rfl,h1⟩|⟨f,x,h1,h2,h3,rfl⟩) (⟨e,g1⟩|⟨e,g1⟩|⟨f',x',g1,g2,g3,e⟩)
  ·exact eY h1 g1
  ·omega
  ·omega
  ·omega
  ·exact eY h1 g1
  ·omega
  ·omega
  ·omega
  ·have:x=x':=(t.El 0 hl x h2).2.2 x' g2 (by omega)
   subst this
   have:f=f':=by
    funext y
    rw[cf,h3,g3]
   rw[this]at h1
   exact eY h1 g1
 ·intro g hg
  have hr:=h g hg
  cases hr with
  |ini h=>exact⟨0,by omega,.inl ⟨rfl,h⟩⟩
  | @step f g c hc hf h=>
   by_cases hx:∃ x,a8 (t.ay 0) f c x=true
   ·obtain⟨x,hx⟩:=hx
    have hxt:=oL hx
    have hb:=t.El 0 hl x hxt
    refine⟨t.lvl 0 x+2,by omega,.inr (.inr ⟨_,x,h,hxt,λy=>⟨λhy=>?_,λe=>e ▸ hx⟩,rfl⟩)⟩
    obtain⟨m,hm⟩:=(Rch.step hc hf h).lvl hl
    have e1:=hm _ (h.1 _ hx)
    have e2:=hm _ (h.1 _ hy)
    exact(hb.2.2 y (oL hy) (by omega)).symm
   ·refine⟨1,by omega,.inr (.inl ⟨rfl,?_⟩)⟩
    have:a8 (t.ay 0) f c=λ_=>false:=by
     funext x
     cases hs:a8 (t.ay 0) f c x
     ·rfl
     ·exact absurd ⟨x,hs⟩ hx
    rw[this]at h
    exact h
theorem Bb{t:Rx}{f g:Nat->Bool}{c:Nat}(h:gR (t.ay 0) (a8 (t.ay 0) f c) g):∀ q,t.pre 0 q=true->g q=false:=by
 intro q hq
 have:=h.2.2 (λq=>!t.pre 0 q) (λe he hf hp=>by
  simp only[bz]at hp |-
  cases hc:t.pre 0 e.2.1
  ·rfl
  ·rw[(t.JD 0 e he hc).2]at hp;cases hp) (λx hx=>by
  obtain⟨e,he,h1,_,_,rfl⟩:=fA.1 hx
  simp only[bz]
  cases hc:t.pre 0 e.2.1
  ·rfl
  ·rw[(t.JD 0 e he hc).1]at h1;cases h1) q
 cases hg:g q
 ·rfl
 ·have:=this hg
  simp[hq]at this
theorem Sn{t:Rx}(hl:t.lf=true)(l:List (Nat->Bool))(hn:l.Nodup)(h:∀ g∈l,Rch t g):l.length<=257+2 ^ (t.dy-1):=by
 obtain⟨r,q1,q2,q3⟩:=t.JF 0 hl
 have hrl:r.length=t.dy-1:=by
  have:=uT t 0
  rw[q1]at this
  simp at this
  omega
 refine rR (λ(g:Nat->Bool) (k:Nat)=>(k=0/\gR (t.ay 0) (λx=>decide (x=t.fst 0)) g)\/(∃ c f,c<256/\gR (t.ay 0) (λx=>decide (x=t.fst 0)) f/\gR (t.ay 0) (a8 (t.ay 0) f c) g/\k=1+c)\/
  (∃ f c,gR (t.ay 0) (a8 (t.ay 0) f c) g/\a8 (t.ay 0) f c 1=false/\k=257+dK (r.map (a8 (t.ay 0) f c)))) ?_ (257+2 ^ (t.dy-1)) l hn ?_
 ·rintro a b k (⟨rfl,h1⟩|⟨c,f,hc,h0,h1,rfl⟩|⟨f,c,h1,h2,rfl⟩) (⟨e,g1⟩|⟨c',f',hc',g0,g1,e⟩|⟨f',c',g1,g2,e⟩)
  ·exact eY h1 g1
  ·omega
  ·omega
  ·omega
  ·have:c=c':=by omega
   subst this
   rw[eY h0 g0]at h1
   exact eY h1 g1
  ·omega
  ·omega
  ·omega
  ·have hb:=oH (r.map (a8 (t.ay 0) f c)) (r.map (a8 (t.ay 0) f' c')) (by simp) (by omega)
   have:onT (t.ay 0) (a8 (t.ay 0) f c)=onT (t.ay 0) (a8 (t.ay 0) f' c'):=by
    unfold onT
    rw[q1]
    simp only[fx,eE]
    rw[h2,g2,hb]
   rw[sb this]at h1
   exact eY h1 g1
 ·intro g hg
  have hr:=h g hg
  cases hr with
  |ini h=>exact⟨0,by have:=aH (2 ^ (t.dy-1));omega,.inl ⟨rfl,h⟩⟩
  | @step f g c hc hf h=>
   cases hf with
   |ini h0=>exact⟨1+c,by have:=aH (2 ^ (t.dy-1));omega,.inr (.inl ⟨c,f,hc,h0,h,rfl⟩)⟩
   | @step f0 f c0 hc0 hf0 h0=>
    have hb:=lI (r.map (a8 (t.ay 0) f c))
    rw[bN,hrl]at hb
    refine⟨_,?_,.inr (.inr ⟨f,c,h,?_,rfl⟩)⟩
    ·omega
    ·cases hs:a8 (t.ay 0) f c 1
     ·rfl
     ·obtain⟨e,he,h1,h2,_,h3⟩:=fA.1 hs
      rw[q3 e he h1 (by omega),Bb h0 0 q2]at h2
      cases h2
def Bq(k:Int)(S0 S1 S2:List Int):Rx:=.cat (.cat (.rep k (.set S0)) (.set S1)) (.set S2)
theorem gr{k:Int}(hk:k≠6){S0 S1 S2:List Int}{e:Ed}:e∈(Bq k S0 S1 S2).ay 0↔e=(0,1,S0,false)\/e=fE 2 0\/e=fE 1 3\/e=fE 1 0\/(k≠5/\e=fE 2 3)\/e=(4,5,S1,false)\/e=fE 6 2\/e=fE 3 4\/e=fE 5 7\/e=(8,9,S2,false)\/e=fE 10 6\/e=fE 7 8\/e=fE 9 11:=by
 by_cases h5:k=5
 ·simp[Bq,Rx.ay,Rx.len,Rx.fst,Rx.lst,hk,h5,or_assoc]
 ·simp[Bq,Rx.ay,Rx.len,Rx.fst,Rx.lst,hk,h5,or_assoc]
structure LqB(t:Rx)(k:Int)(S0 S1 S2:List Int):Prop where
 hk:k≠6
 sm:sd S0
 tg:∃ r,fD (t.ay 0)=1::5::9::r
 ed:∀ e∈t.ay 0,e.2.1<12->e.2.1≠10->e∈(Bq k S0 S1 S2).ay 0
 sub:∀ e∈(Bq k S0 S1 S2).ay 0,e∈t.ay 0
 len:6<=t.len
 p2:t.pre 0 2=true
 c8:t.cl 0 8=false
 nl:t.null=false
theorem Lq.bot{t:Rx}(h:t.Lq)(h3:3<=t.dy):∃ k S0 S1 S2,LqB t k S0 S1 S2:=by
 induction h with
 |rep hk hS=>simp[Rx.dy]at h3
 | @cat a S ha ih=>
  by_cases h3':3<=a.dy
  ·obtain⟨k,S0,S1,S2,b⟩:=ih h3'
   obtain⟨r,hr⟩:=b.tg
   have hl:=b.len
   refine⟨k,S0,S1,S2,b.hk,b.sm,⟨r++fD ((Rx.set S).ay (0+2*a.len)),?_⟩,λe he h1 h2=>?_,λe he=>?_,?_,?_,?_,?_⟩
   ·simp only[Rx.ay,ic,hr];simp[fD,fE]
   ·simp only[Rx.ay,av,az,cq,or_false]at he
    rcases he with(he|he)|he|he|he
    ·exact b.ed e he h1 h2
    ·subst he;simp at h1;omega
    ·subst he;simp only[fE,Rx.fst]at h1 h2;omega
    ·subst he;simp only[fE,Rx.fst,Rx.len]at h1 h2;omega
    ·subst he;simp only[fE,Rx.len]at h1 h2;omega
   ·simp only[Rx.ay,av]
    exact .inl (.inl (b.sub e he))
   ·simp only[Rx.len];omega
   ·simp only[Rx.pre,b.p2,fy]
   ·simp only[Rx.cl,b.c8,b.nl,Rx.len,Rx.null]
    simp
    omega
   ·simp[Rx.null]
  ·cases ha with
   |rep hk hS=>simp[Rx.dy]at h3
   | @cat a' S' ha'=>
    cases ha' with
    | @rep k S0 hk hS=>
     refine⟨k,S0,S',S,hk,hS,⟨[],?_⟩,λe he _ _=>he,λe he=>he,by simp[Rx.len],by simp[Rx.pre,Rx.len],by simp[Rx.cl,Rx.len,Rx.null],by simp[Rx.null]⟩
     simp only[Rx.ay,ic]
     by_cases h5:k=5 <;> simp[fD,fE,Rx.len,hk,h5]
    |cat h=>
     exfalso
     cases h <;> simp[Rx.dy]at h3' h3 <;> omega
section
variable {t:Rx} {k:Int} {S0 S1 S2:List Int}
theorem LqB.at1(b:LqB t k S0 S1 S2){h:Nat->Bool}{c:Nat}(hs:a8 (t.ay 0) h c 1=true):h 0=true/\hasB S0 c=true:=by
 obtain⟨e,he,h1,h2,h3,h4⟩:=fA.1 hs
 have:=b.ed e he (by omega) (by omega)
 rw[gr b.hk]at this
 rcases this with rfl|rfl|rfl|rfl|⟨_,rfl⟩|rfl|rfl|rfl|rfl|rfl|rfl|rfl|rfl <;> simp[fE]at h1 h4
 exact⟨h2,h3⟩
theorem LqB.at5(b:LqB t k S0 S1 S2){h:Nat->Bool}{c:Nat}(hs:a8 (t.ay 0) h c 5=true):h 4=true/\hasB S1 c=true:=by
 obtain⟨e,he,h1,h2,h3,h4⟩:=fA.1 hs
 have:=b.ed e he (by omega) (by omega)
 rw[gr b.hk]at this
 rcases this with rfl|rfl|rfl|rfl|⟨_,rfl⟩|rfl|rfl|rfl|rfl|rfl|rfl|rfl|rfl <;> simp[fE]at h1 h4
 exact⟨h2,h3⟩
theorem LqB.at9(b:LqB t k S0 S1 S2){h:Nat->Bool}{c:Nat}(hs:a8 (t.ay 0) h c 9=true):h 8=true:=by
 obtain⟨e,he,h1,h2,h3,h4⟩:=fA.1 hs
 have:=b.ed e he (by omega) (by omega)
 rw[gr b.hk]at this
 rcases this with rfl|rfl|rfl|rfl|⟨_,rfl⟩|rfl|rfl|rfl|rfl|rfl|rfl|rfl|rfl <;> simp[fE]at h1 h4
 exact h2
theorem LqB.no(b:LqB t k S0 S1 S2){h:Nat->Bool}{c q:Nat}(hq:q=0\/q=3\/q=4\/q=7\/q=8):a8 (t.ay 0) h c q=false:=by
 cases hs:a8 (t.ay 0) h c q
 ·rfl
 ·exfalso
  obtain⟨e,he,h1,h2,h3,h4⟩:=fA.1 hs
  have:=b.ed e he (by omega) (by omega)
  rw[gr b.hk]at this
  rcases this with rfl|rfl|rfl|rfl|⟨_,rfl⟩|rfl|rfl|rfl|rfl|rfl|rfl|rfl|rfl <;> simp[fE]at h1 h4 <;> omega
theorem LqB.free(b:LqB t k S0 S1 S2){e:Ed}(he:e∈t.ay 0)(hf:e.2.2.2=true)(hq:e.2.1<10):e.2.1=0/\(e.1=1\/e.1=2)\/e.2.1=3/\(e.1=1\/e.1=2)\/e.2.1=2\/e.2.1=6\/e.2.1=4/\e.1=3\/e.2.1=7/\e.1=5\/e.2.1=8/\e.1=7:=by
 have:=b.ed e he (by omega) (by omega)
 rw[gr b.hk]at this
 rcases this with rfl|rfl|rfl|rfl|⟨_,rfl⟩|rfl|rfl|rfl|rfl|rfl|rfl|rfl|rfl <;> simp[fE]at hf hq |-
theorem LqB.r8(b:LqB t k S0 S1 S2){h f:Nat->Bool}{c:Nat}(hc:gR (t.ay 0) (a8 (t.ay 0) f c) h)(h8:h 8=true):a8 (t.ay 0) f c 5=true:=by
 cases h5:a8 (t.ay 0) f c 5
 ·exfalso
  have:=hc.2.2 (λq=>!(decide (q=5)||(decide (q=7)||decide (q=8)))) (λe he hf hd=>by
   cases hx:(decide (e.2.1=5)||(decide (e.2.1=7)||decide (e.2.1=8)))
   ·show(!_)=true
    rw[hx];rfl
   ·exfalso
    simp only[aG,decide_eq_true_eq]at hx
    have:=b.free he hf (by omega)
    simp at hd
    omega) (λx hx=>by
   cases hy:(decide (x=5)||(decide (x=7)||decide (x=8)))
   ·show(!_)=true
    rw[hy];rfl
   ·exfalso
    simp only[aG,decide_eq_true_eq]at hy
    rcases hy with rfl|rfl|rfl
    ·rw[h5]at hx;cases hx
    ·rw[b.no (by omega)]at hx;cases hx
    ·rw[b.no (by omega)]at hx;cases hx) 8 h8
  simp at this
 ·rfl
theorem LqB.r1(b:LqB t k S0 S1 S2){h f:Nat->Bool}{c:Nat}(hc:gR (t.ay 0) (a8 (t.ay 0) f c) h)(h8:h 4=true\/h 0=true):a8 (t.ay 0) f c 1=true:=by
 cases h5:a8 (t.ay 0) f c 1
 ·exfalso
  have hp:=Bb hc 2 b.p2
  have key:=hc.2.2 (λq=>h q&&!(decide (q=1)||(decide (q=3)||(decide (q=4)||decide (q=0))))) (λe he hf hd=>by
   simp only[ag]at hd |-
   refine⟨hc.2.1 e he hf hd.1,?_⟩
   cases hx:(decide (e.2.1=1)||(decide (e.2.1=3)||(decide (e.2.1=4)||decide (e.2.1=0))))
   ·rfl
   ·exfalso
    simp only[aG,decide_eq_true_eq]at hx
    have:=b.free he hf (by omega)
    have h2:e.1≠2:=λe2=>by have h1:=hd.1;rw[e2,hp]at h1;cases h1
    have h3:=hd.2
    simp at h3
    omega) (λx hx=>by
   simp only[ag]
   refine⟨hc.1 x hx,?_⟩
   cases hy:(decide (x=1)||(decide (x=3)||(decide (x=4)||decide (x=0))))
   ·rfl
   ·exfalso
    simp only[aG,decide_eq_true_eq]at hy
    rcases hy with rfl|rfl|rfl|rfl
    ·rw[h5]at hx;cases hx
    ·rw[b.no (by omega)]at hx;cases hx
    ·rw[b.no (by omega)]at hx;cases hx
    ·rw[b.no (by omega)]at hx;cases hx)
  rcases h8 with h8|h8
  ·have:=key 4 h8;simp at this
  ·have:=key 0 h8;simp at this
 ·rfl
theorem LqB.Em(b:LqB t k S0 S1 S2){h:Nat->Bool}(hr:Rch t h)(h8:h 8=true):∃ f c,c<256/\gR (t.ay 0) (a8 (t.ay 0) f c) h:=by
 cases hr with
 |ini hi=>
  exfalso
  have:=hi.2.2 (t.cl 0) (λe he hf hp=>t.DW 0 e he hf hp) (λx hx=>by
   rw[decide_eq_true_eq]at hx
   rw[hx];exact t.nG 0) 8 h8
  rw[b.c8]at this
  cases this
 |step hc _ hi=>exact⟨_,_,hc,hi⟩
theorem LqB.X(b:LqB t k S0 S1 S2){h:Nat->Bool}(hr:Rch t h){c:Nat}(hc:c<256)(h1:a8 (t.ay 0) h c 1=false)(h5:a8 (t.ay 0) h c 5=true)(h9:a8 (t.ay 0) h c 9=true):hasB S0 c=false:=by
 obtain⟨f,c',hc',hi⟩:=b.Em hr (b.at9 h9)
 have f1:=b.r1 hi (.inl (b.at5 h5).1)
 have g1:=hi.1 _ f1
 have g0:=hi.2.1 (fE 1 0) (b.sub _ ((gr b.hk).2 (by simp))) rfl g1
 cases hs:hasB S0 c
 ·rfl
 ·have:a8 (t.ay 0) h c 1=true:=fA.2 ⟨(0,1,S0,false),b.sub _ ((gr b.hk).2 (by simp)),rfl,g0,hs,rfl⟩
  rw[h1]at this;cases this
theorem LqB.Y(b:LqB t k S0 S1 S2){h:Nat->Bool}(hr:Rch t h){c:Nat}(hc:c<256)(h1:a8 (t.ay 0) h c 1=true)(h5:a8 (t.ay 0) h c 5=false)(h9:a8 (t.ay 0) h c 9=true):∃ d d',d<256/\d' < 256/\d≠d'/\hasB S0 d=true/\hasB S0 d'=true:=by
 obtain⟨f,c',hc',hi⟩:=b.Em hr (b.at9 h9)
 have f5:=b.r8 hi (b.at9 h9)
 have f1:=b.r1 hi (.inr (b.at1 h1).1)
 have g1:=hi.1 _ f1
 have g3:=hi.2.1 (fE 1 3) (b.sub _ ((gr b.hk).2 (by simp))) rfl g1
 have g4:=hi.2.1 (fE 3 4) (b.sub _ ((gr b.hk).2 (by simp))) rfl g3
 refine⟨c,c',hc,hc',?_,(b.at1 h1).2,(b.at1 f1).2⟩
 rintro rfl
 have:a8 (t.ay 0) h c 5=true:=fA.2 ⟨(4,5,S1,false),b.sub _ ((gr b.hk).2 (by simp)),rfl,g4,(b.at5 f5).2,rfl⟩
 rw[h5]at this;cases this
theorem LqB.Ny(b:LqB t k S0 S1 S2){d d' c:Nat}(hc:c<256)(hX:hasB S0 c=false)(hd:d<256)(hd':d' < 256)(hne:d≠d')(h1:hasB S0 d=true)(h2:hasB S0 d'=true):False:=by
 rcases b.sm with h|⟨v,h⟩
 ·rw[h,qn _ hc]at hX;cases hX
 ·rw[h,qn _ hd]at h1
  rw[h,qn _ hd']at h2
  unfold rT at h1 h2
  simp only[decide_eq_true_eq]at h1 h2
  omega
theorem JH{E:List Ed}{f0:Nat->Bool}{r:List Nat}(hr:fD E=1::5::9::r)(x0 x1 x2:Bool)(l:List (Nat->Bool))(hn:l.Nodup)(h:∀ g∈l,gR E f0 g\/∃ f c,gR E (a8 E f c) g/\¬(a8 E f c 1=x0/\a8 E f c 5=x1/\a8 E f c 9=x2)):l.length<=1+7*2 ^ r.length:=by
 have code:∀ (p v:Nat),v % 8≠p->p<8->(if v % 8<p then v % 8 else v % 8-1)<7:=by intro p v h1 h2;split <;> omega
 refine rR (λ(g:Nat->Bool) (k:Nat)=>(k=0/\gR E f0 g)\/(∃ f c,gR E (a8 E f c) g/\dK (onT E (a8 E f c)) % 8≠dK [x0,x1,x2]/\
  k=1+(7*(dK (onT E (a8 E f c)) / 8)+(if dK (onT E (a8 E f c)) % 8<dK [x0,x1,x2]then dK (onT E (a8 E f c)) % 8 else dK (onT E (a8 E f c)) % 8-1)))) ?_ (1+7*2 ^ r.length) l hn ?_
 ·have hp:dK [x0,x1,x2]<8:=lI [x0,x1,x2]
  rintro a b k (⟨rfl,h1⟩|⟨f,c,h1,h2,rfl⟩) (⟨e,g1⟩|⟨f',c',g1,g2,e⟩)
  ·exact eY h1 g1
  ·omega
  ·omega
  ·have hb:dK (onT E (a8 E f c))=dK (onT E (a8 E f' c')):=by
    generalize dK (onT E (a8 E f c))=u at *
    generalize dK (onT E (a8 E f' c'))=v at *
    generalize dK [x0,x1,x2]=p at *
    have c1:=code p u h2 hp
    have c2:=code p v g2 hp
    have e1:u / 8=v / 8:=by omega
    have e2:u % 8=v % 8:=by
     split at e <;> split at e <;> omega
    omega
   rw[sb (oH _ _ (by rw[qo,qo]) hb)]at h1
   exact eY h1 g1
 ·intro g hg
  rcases h g hg with h|⟨f,c,h1,h2⟩
  ·exact⟨0,by omega,.inl ⟨rfl,h⟩⟩
  ·have hp:dK [x0,x1,x2]<8:=lI [x0,x1,x2]
   have hv:dK (onT E (a8 E f c))=dK [a8 E f c 1,a8 E f c 5,a8 E f c 9]+8*dK (r.map (a8 E f c)):=by
    unfold onT
    rw[hr]
    simp only[fx,dK]
    omega
   have h3:dK [a8 E f c 1,a8 E f c 5,a8 E f c 9]<8:=lI [a8 E f c 1,a8 E f c 5,a8 E f c 9]
   have hm:dK (onT E (a8 E f c)) % 8≠dK [x0,x1,x2]:=by
    intro e
    have e3:dK [a8 E f c 1,a8 E f c 5,a8 E f c 9]=dK [x0,x1,x2]:=by omega
    have:=oH [a8 E f c 1,a8 E f c 5,a8 E f c 9] [x0,x1,x2] rfl e3
    injection this with a1 a2
    injection a2 with a2 a3
    injection a3 with a3
    exact h2 ⟨a1,a2,a3⟩
   have hrl:=lI (r.map (a8 E f c))
   rw[bN]at hrl
   have hc:=code _ _ hm hp
   refine⟨_,?_,.inr ⟨f,c,h1,hm,rfl⟩⟩
   omega
theorem Sq(b:LqB t k S0 S1 S2)(l:List (Nat->Bool))(hn:l.Nodup)(h:∀ g∈l,Rch t g):l.length<=1+7*2 ^ (t.dy-3):=by
 obtain⟨r,hr⟩:=b.tg
 have hrl:r.length=t.dy-3:=by
  have:=uT t 0
  rw[hr]at this
  simp at this
  omega
 rw[<-hrl]
 by_cases hX:∃ c,c<256/\hasB S0 c=false
 ·obtain⟨c0,hc0,hX⟩:=hX
  refine JH (f0:=λx=>decide (x=t.fst 0)) hr true false true l hn (λg hg=>?_)
  have hr:=h g hg
  cases hr with
  |ini h=>exact .inl h
  | @step f g c hc hf h=>
   refine .inr ⟨f,c,h,λ⟨a1,a2,a3⟩=>?_⟩
   obtain⟨d,d',q1,q2,q3,q4,q5⟩:=b.Y hf hc a1 a2 a3
   exact b.Ny hc0 hX q1 q2 q3 q4 q5
 ·refine JH (f0:=λx=>decide (x=t.fst 0)) hr false true true l hn (λg hg=>?_)
  have hr:=h g hg
  cases hr with
  |ini h=>exact .inl h
  | @step f g c hc hf h=>
   refine .inr ⟨f,c,h,λ⟨a1,a2,a3⟩=>hX ⟨c,hc,b.X hf hc a1 a2 a3⟩⟩
end
theorem GO{t:Rx}(hw:t.wt<=12)(l:List (Nat->Bool))(hn:l.Nodup)(h:∀ g∈l,Rch t g):l.length<=2000:=by
 have ho:=t.ga
 rcases ap t.dy 11 with h10|h11
 ·have:=Nr (E:=t.ay 0) l hn (λg hg=>(h g hg).Vm)
  rw[uT]at this
  have h2:2 ^ t.dy<=2 ^ 10:=ix (by omega) (by omega)
  omega
 ·rcases ap t.dy 12 with h12|h12
  ·have h1:t.dy=11:=by omega
   rcases Qd t (by omega)with hl|hl|hl
   ·have:=JG hl l hn h;omega
   ·have:=Sn hl l hn h
    rw[h1]at this
    omega
   ·obtain⟨k,S0,S1,S2,b⟩:=Lq.bot hl (by omega)
    have:=Sq b l hn h
    rw[h1]at this
    omega
  ·have:=JG (uV t (by omega)).2.1 l hn h
   omega
end
noncomputable section
theorem JI(d)(q:Int):Mz N0 (d,(q,([],())))=some ((q,()),()):=by
 unfold Mz
 refine aZ (λm x r=>x=((),(q,((0:Int),())))/\r=some ((q,()),())) ?_ N0 0 _ _ (by unfold N0;omega) ⟨rfl,rfl⟩
 rintro m x r ⟨rfl,rfl⟩ k hk
 rfl
theorem GP{d}{v:Int}(h:d.2.2[0]?=some v):MA N0 (d,(0,()))=some ((v,()),()):=by
 have hl:0<d.2.2.length:=by
  rcases ap 0 d.2.2.length with h2|h2
  ·exact h2
  ·rw[bn h2]at h;cases h
 have g:d.2.2[((0:Int)).toNat]?=some v:=h
 unfold MA
 simp only
 refine aW ((),(false,())) (λK=>?_) ?_
 ·rw[show decide ((0:Int)<0)=false from rfl,cond_false,decide_eq_false (show ¬((d.2.2.length:Nat):Int)<=0 by omega)]
 ·simp only
  rw[cond_false,if_pos z0,g]
theorem JJ{d}{v:Int}(h:d.2.2[0]?=some v):MB N0 (d,([],()))=some ((v,()),()):=by
 unfold MB
 simp only
 rw[aa (JI d 0)]
 simp only
 rw[aa (GP h)]
end
noncomputable section
theorem pu{s:List Int}{e:Int}(h:gk s=.error e):e=5\/e=6:=by
 unfold gk at h
 split at h
 ·injection h with h;omega
 split at h
 ·injection h with h;omega
 split at h
 ·injection h with h;omega
 split at h
 ·injection h with h;omega
 ·cases h
def Vn:List Int×(List (List Int)×List Int):=(List.replicate 256 0,([],[]))
theorem JK{s:List Int}(hb:Bytes s)(hsm:s.length<=maxLen){e:Int}(h:gk s=.error e):Ct N0 (s,())=some ((Vn,(e,())),()):=by
 have he:=pu h
 unfold Ct
 simp only
 rw[aa (D6 hb hsm),h]
 simp only[Jk]
 rcases he with rfl|rfl <;> rfl
theorem Nz{s:List Int}(hb:Bytes s)(hsm:s.length<=maxLen){t:Rx}(h:gk s=.ok t){d}{c:Int}(hd:IQ N0 (nfT t,())=some ((d,(c,())),())):Ct N0 (s,())=some ((d,(c,())),()):=by
 obtain⟨h1,h2,h3⟩:=rZ hb h
 unfold Ct
 simp only
 rw[aa (D6 hb hsm),h]
 simp only[Jk]
 rw[decide_true,aB,cond_false,aa (Nc h1 h2)]
 simp only
 rw[decide_true,aB,cond_false,aa hd]
def mkJ(n j:Nat):List Int:=(List.range n).map λq=>if q<j then -1 else 0
theorem kD(n j:Nat):(mkJ n j).length=n:=by simp[mkJ]
theorem oM{n:Nat}(j:Nat){i:Nat}(h:i<n):(mkJ n j)[i]?=some (if i<j then -1 else 0):=by
 unfold mkJ
 rw[bS,dS h]
 rfl
theorem NA{n j:Nat}(h:j<n):(mkJ n j).set j (-1)=mkJ n (j+1):=by
 apply eC
 intro i
 rw[jG]
 by_cases hi:i<n
 ·rw[oM j hi,oM (j+1) hi]
  by_cases e:j=i
  ·subst e
   rw[if_pos rfl,if_pos (by rw[kD];exact h),if_pos (by omega)]
  ·rw[if_neg e]
   by_cases h2:i<j
   ·rw[if_pos h2,if_pos (by omega)]
   ·rw[if_neg h2,if_neg (by omega)]
 ·have e1:(mkJ n (j+1))[i]?=none:=bn (by rw[kD];omega)
  have e2:(mkJ n j)[i]?=none:=bn (by rw[kD];omega)
  rw[e1,e2,if_neg (by omega)]
theorem JL{n last:Nat}(h:last<n):(mkJ n n).set last 0=mkL n last:=by
 apply eC
 intro i
 rw[jG]
 by_cases hi:i<n
 ·rw[oM n hi,Eh last hi]
  by_cases e:last=i
  ·subst e
   rw[if_pos rfl,if_pos (by rw[kD];exact h),if_pos rfl]
  ·rw[if_neg e,if_pos hi,if_neg (λh=>e h.symm)]
 ·have e1:(mkL n last)[i]?=none:=bn (by rw[Eg];omega)
  have e2:(mkJ n n)[i]?=none:=bn (by rw[kD];omega)
  rw[e1,e2,if_neg (by omega)]
theorem JM(n:Nat):List.replicate n (0:Int)=mkJ n 0:=by
 apply eC
 intro i
 by_cases hi:i<n
 ·rw[oM 0 hi,kO,if_pos hi,if_neg (by omega)]
 ·rw[bn (by rw[iq];omega),bn (by rw[kD];omega)]
theorem NB{t:Rx}(hl:t.len<=400){d}{c:Int}(hd:IP N0 (nfT t,(mkL (2*t.len) (t.lst 0),()))=some ((d,(c,())),())):IQ N0 (nfT t,())=some ((d,(c,())),()):=by
 have xb:=t.kJ 0
 have hn8:2*t.len<=800:=by omega
 have hN:(nfT t).1=((2*t.len:Nat):Int):=rfl
 have hL:(nfT t).2.2.2=((t.lst 0:Nat):Int):=rfl
 unfold IQ
 simp only
 rw[aa (AV hl)]
 simp only
 rw[aB,cond_false]
 simp only[hN,hL]
 generalize 2*t.len=n at *
 generalize t.lst 0=last at *
 have hln:last<n:=by omega
 rw[if_pos ⟨by omega,by omega⟩,if_pos (by rw[ae];omega),ae,JM]
 generalize (List.replicate 256 (0:Int),(([]:List (List Int)),([]:List Int)))=Z
 refine aZ (λm x q=>∃ j:Nat,x=((Z,(mkJ n j,())),((j:Int),()))/\m+j=n/\q=some ((d,(c,())),())) ?_ N0 n _ _ (by unfold N0;omega) ⟨0,rfl,rfl,rfl⟩
 rintro m x q ⟨j,rfl,hm,rfl⟩ k hk
 simp only
 rcases ap j n with hj|hj
 ·have n0:(0:Int)<=(j:Int):=by omega
  rw[decide_eq_true (show(j:Int)<(((mkJ n 0).length:Nat):Int) by rw[kD];omega),cond_true,if_pos n0,ae,oM j hj]
  simp only
  rw[if_pos n0]
  rw[NA hj,dh (by omega)]
  exact hk (m-1) _ _ (by omega) ⟨j+1,rfl,by omega,rfl⟩
 ·have:j=n:=by omega
  subst this
  have n0:(0:Int)<=(last:Int):=by omega
  rw[decide_eq_false (show ¬(j:Int)<(((mkJ j 0).length:Nat):Int) by rw[kD];omega),cond_false,if_pos n0,ae,oM j hln]
  simp only
  rw[if_pos n0]
  rw[JL hln,aa hd]
end
noncomputable section
abbrev KM:=List (List Int×Int)
def eqK:List Int->List Int->Bool:=λa b=>decide (a=b)
theorem JN(k k':List Int)(v:Int):∀ x:KM,fk eqK k (ff eqK k' v x)=(decide (k=k')||fk eqK k x):=by
 intro x
 induction x with
 |nil=>simp[ff,fk,eqK]
 |cons p r ih=>
  simp only[ff]
  by_cases e:k'=p.1
  ·have:eqK k' p.1=true:=decide_eq_true e
   rw[this,cond_true]
   simp only[fk]
   rw[<-e]
   by_cases e2:k=k'
   ·rw[show eqK k k'=true from decide_eq_true e2,decide_eq_true e2];rfl
   ·rw[show eqK k k'=false from decide_eq_false e2,decide_eq_false e2];rfl
  ·have:eqK k' p.1=false:=decide_eq_false e
   rw[this,cond_false]
   simp only[fk]
   by_cases e2:k=p.1
   ·rw[show eqK k p.1=true from decide_eq_true e2,cond_true,cond_true,fy]
   ·rw[show eqK k p.1=false from decide_eq_false e2,cond_false,cond_false,ih]
def Sup(n:Nat)(g:Nat->Bool):Prop:=∀ q,g q=true->q<n
theorem Sup.ext{n:Nat}{g g':Nat->Bool}(h:Sup n g)(h':Sup n g')(he:∀ i,i<n->g i=g' i):g=g':=by
 funext q
 by_cases hq:q<n
 ·exact he q hq
 ·cases h1:g q
  ·cases h2:g' q
   ·rfl
   ·exact absurd (h' q h2) hq
  ·exact absurd (h q h1) hq
theorem Sup.cut{n:Nat}{g:Nat->Bool}(h:Sup n g):CH n g=g:=by
 funext q
 unfold CH
 cases hg:g q
 ·simp
 ·simp[h q hg]
abbrev BI:=NfI×(List Int×(List Int×(KM×(List (List Bool)×(List Int×(List (List Int)×List Int))))))
structure BOk(N:NfI)(n last:Nat)(jx cls:List Int)(b:BI)(gs:List (Nat->Bool)):Prop where
 nf:b.1=N
 mks:b.2.1=mkL n last
 rp:b.2.2.1=jx
 key:∀ k,fk eqK k b.2.2.2.1=true↔∃ g∈gs,k=dj n g
 dD:b.2.2.2.2.1=gs.map (bsN n)
 cl:b.2.2.2.2.2.1=cls
 mark:b.2.2.2.2.2.2.2=gs.map λg=>ib g last n
 sup:∀ g∈gs,Sup n g
def yw(g:Nat->Bool):Nat->Bool
 |0=>false
 |i+1=>yw g i||g i
theorem JO{g:Nat->Bool}:∀ {i:Nat},yw g i=true↔∃ q,q<i/\g q=true:=by
 intro i
 induction i with
 |zero=>
  constructor
  ·intro h;cases h
  ·rintro⟨q,h,_⟩;omega
 |succ i ih=>
  simp only[yw,aG,ih]
  constructor
  ·rintro(⟨q,h1,h2⟩|h)
   ·exact⟨q,by omega,h2⟩
   ·exact⟨i,by omega,h⟩
  ·rintro⟨q,h1,h2⟩
   by_cases e:q=i
   ·subst e;exact .inr h2
   ·exact .inl ⟨q,by omega,h2⟩
theorem En{N:NfI}{n last:Nat}{jx cls:List Int}(hn:n<=100000)(hl:last<n){b:BI}{gs:List (Nat->Bool)}(hb:BOk N n last jx cls b gs)(hg:gs.length<=100000){g:Nat->Bool}(hs:Sup n g):
 ∃ (r:Int) (b':BI) (gs':List (Nat->Bool)),IN N0 (b,(bsN n g,()))=some ((r,()),(b',()))/\BOk N n last jx cls b' gs'/\b'.2.2.2.2.2.2.1=b.2.2.2.2.2.2.1/\(((gs'=gs)/\((∀ q,g q=false)\/g∈gs))\/(gs'=gs++[g]/\g∉gs)):=by
 unfold IN
 simp only
 refine ew (λm x=>∃ i:Nat,x=((b,()),(yw g i,((i:Int),())))/\m+i=n) (λz=>∃ (r:Int) (b':BI) (gs':List (Nat->Bool)),z=some ((r,()),(b',()))/\BOk N n last jx cls b' gs'/\b'.2.2.2.2.2.2.1=b.2.2.2.2.2.2.1/\(((gs'=gs)/\((∀ q,g q=false)\/g∈gs))\/(gs'=gs++[g]/\g∉gs))) ?_ N0 n _ (by unfold N0;omega) ⟨0,?_,rfl⟩
 ·rintro m x ⟨i,rfl,hm⟩ k hk
  simp only[hP]
  rcases ap i n with hi|hi
  ·have n0:(0:Int)<=(i:Int):=by omega
   rw[decide_eq_true (show(i:Int)<((n:Nat):Int) by omega),cond_true,if_pos n0,ae,hY g hi]
   simp only
   refine qi (P:=λz=>∃ (r:Int) (b':BI) (gs':List (Nat->Bool)),z=some ((r,()),(b',()))/\BOk N n last jx cls b' gs'/\b'.2.2.2.2.2.2.1=b.2.2.2.2.2.2.1/\(((gs'=gs)/\((∀ q,g q=false)\/g∈gs))\/(gs'=gs++[g]/\g∉gs))) λK hK=>?_
   have hor:yw g (i+1)=(yw g i||g i):=rfl
   have fin:=hk (m-1) ((b,()),(yw g (i+1),(((i+1:Nat):Int),()))) (by omega) ⟨i+1,rfl,by omega⟩
   cases hd:yw g i
   ·rw[cond_false,hK]
    simp only
    rw[dh (by omega)]
    rw[hor,hd,cT]at fin
    exact fin
   ·rw[cond_true,hK]
    simp only
    rw[dh (by omega)]
    rw[hor,hd,dW]at fin
    exact fin
  ·have:i=n:=by omega
   subst this
   rw[decide_eq_false (show ¬(i:Int)<((i:Nat):Int) by omega),cond_false]
   cases hd:yw g i
   ·rw[aI,cond_true]
    refine⟨-1,b,gs,rfl,hb,rfl,.inl ⟨rfl,.inl λq=>?_⟩⟩
    cases hq:g q
    ·rfl
    ·rw[JO.2 ⟨q,hs q hq,hq⟩]at hd;cases hd
   ·rw[aB,cond_false,aa (Nl hn g)]
    simp only[hs.cut]
    show ∃ (r:Int) (b':BI) (gs':List (Nat->Bool)),(bif fk eqK (dj i g) b.2.2.2.1 then _ else _)=some ((r,()),(b',()))/\_
    cases hh:fk eqK (dj i g) b.2.2.2.1
    ·rw[cond_false]
     have hlen:b.2.2.2.2.1.length=gs.length:=by rw[hb.dD,bN]
     have D7:b.2.2.2.2.2.2.2.length=gs.length:=by rw[hb.mark,bN]
     rw[if_pos (by rw[hlen];simp;omega),if_pos (by rw[hlen];simp;omega)]
     rw[show(λ(a b:List Int)=>decide (a=b))=eqK from rfl]
     rw[aa (Nq hn hl (b.1,(b.2.1,(b.2.2.1,(ff eqK (dj i g) (b.2.2.2.2.1.length:Int) b.2.2.2.1,(b.2.2.2.2.1++[bsN i g],b.2.2.2.2.2))))) hb.mks g)]
     simp only
     rw[if_pos (by rw[D7];simp;omega),if_pos (by rw[D7];simp;omega)]
     refine⟨_,_,gs++[g],rfl,⟨hb.nf,hb.mks,hb.rp,λk'=>?_,?_,hb.cl,?_,?_⟩,rfl,.inr ⟨rfl,λhm=>?_⟩⟩
     ·show fk eqK k' (ff eqK (dj i g) _ _)=true↔_
      rw[JN,aG,decide_eq_true_eq,hb.key]
      constructor
      ·rintro(h|⟨g',h1,h2⟩)
       ·exact⟨g,by simp,h⟩
       ·exact⟨g',by simp[h1],h2⟩
      ·rintro⟨g',h1,h2⟩
       rcases av.1 h1 with h1|h1
       ·exact .inr ⟨g',h1,h2⟩
       ·simp at h1;subst h1;exact .inl h2
     ·show b.2.2.2.2.1++[bsN i g]=_
      rw[hb.dD];simp
     ·show b.2.2.2.2.2.2.2++[ib g last i]=_
      rw[hb.mark];simp
     ·intro g' hg'
      rcases av.1 hg' with h1|h1
      ·exact hb.sup g' h1
      ·simp at h1;subst h1;exact hs
     ·have:=(hb.key (dj i g)).2 ⟨g,hm,rfl⟩
      rw[hh]at this;cases this
    ·rw[cond_true]
     refine⟨_,b,gs,rfl,hb,rfl,.inl ⟨rfl,.inr ?_⟩⟩
     obtain⟨g',h1,h2⟩:=(hb.key _).1 hh
     have:=hs.ext (hb.sup g' h1) (nJ h2)
     rw[this];exact h1
 ·rfl
end
noncomputable section
theorem NC{n x:Nat}(h:x<n):(List.replicate n false).set x true=bsN n (λq=>decide (q=x)):=by
 have h0:List.replicate n false=bsN n (λ_=>false):=by
  apply eC
  intro i
  by_cases hi:i<n
  ·rw[hY (n:=n) (λ_=>false) hi,kO,if_pos hi]
  ·rw[bn (by rw[iq];omega),bn (by rw[hP];omega)]
 rw[h0,yq _ h]
 congr 1
theorem ND{n x:Nat}(h:x<n):(List.replicate n false)[x]?=some false:=by
 rw[kO,if_pos h]
theorem Bc{E:List Ed}{n:Nat}(hin:InE n E){f g:Nat->Bool}(hf:∀ q,f q=true->q<n)(h:gR E f g):Sup n g:=by
 intro q hq
 have:=h.2.2 (λq=>decide (q<n)) (λe he _ _=>by simpa using(hin e he).2) (λx hx=>by simpa using hf x hx) q hq
 simpa using this
theorem GQ{E:List Ed}{n:Nat}(hin:InE n E)(f:Nat->Bool)(c:Nat):∀ q,a8 E f c q=true->q<n:=by
 intro q hq
 obtain⟨e,he,_,_,_,rfl⟩:=fA.1 hq
 exact(hin e he).2
structure Bd(t:Rx)(g0:Nat->Bool)(gs:List (Nat->Bool)):Prop where
 nd:gs.Nodup
 rch:∀ g∈gs,Rch t g
 hd:gs[0]?=some g0
theorem Bd.le{t:Rx}{g0:Nat->Bool}{gs:List (Nat->Bool)}(h:Bd t g0 gs)(hw:t.wt<=12):gs.length<=2000:=GO hw gs h.nd h.rch
theorem Bd.push{t:Rx}{g0 g:Nat->Bool}{gs:List (Nat->Bool)}(h:Bd t g0 gs)(hr:Rch t g)(hn:g∉gs):Bd t g0 (gs++[g]) where
 nd:=by
  rw[List.nodup_append]
  refine⟨h.nd,by simp,λa ha b hb=>?_⟩
  simp at hb
  subst hb
  rintro rfl
  exact hn ha
 rch:=λg' hg'=>by
  rcases av.1 hg' with h1|h1
  ·exact h.rch g' h1
  ·simp at h1;subst h1;exact hr
 hd:=by
  have:=h.hd
  rw[dR (bm.1 this).1]
  exact this
def Oq(l:List Int):Prop:=l.length<=256/\∀ v∈l,∃ c:Nat,c<256/\v=(c:Int)
abbrev DfI:=List Int×(List (List Int)×List Int)
def DQ(t:Rx)(z:Option ((DfI×(Int×Unit))×Unit)):Prop:=∃ d:DfI,z=some ((d,((0:Int),())),())/\d.2.2[0]?=some (if t.null=true then 0 else -1)
theorem NE{t:Rx}(hok:t.ok)(hlen:t.len<=400)(hw:t.wt<=12):
 DQ t (IP N0 (nfT t,(mkL (2*t.len) (t.lst 0),()))):=by
 have hin:=w5 t
 have hE:=iP t 0
 have hS:=P8 t hok 0
 have VN:=t.kJ 0
 have VO:=t.pq 0
 have hn:2*t.len<=100000:=by omega
 unfold IP
 simp only
 rw[aa (AV hlen)]
 simp only
 rw[aB,cond_false,show nfT t=(((2*t.len:Nat):Int),((t.ay 0).map edI,(((t.fst 0:Nat):Int),((t.lst 0:Nat):Int))))from rfl]
 rw[aa (Nf (by omega) _)]
 simp only
 obtain⟨arr,Vo,hao⟩:=No (dD:=ia (t.ay 0)) (by have:=w6 (t.ay 0);omega) (λS hS'=>by
  unfold ia at hS'
  obtain⟨e,he,rfl⟩:=gN.1 hS'
  exact hS e (od.1 he).1)
 rw[aa Vo]
 simp only
 generalize hNf:(((2*t.len:Nat):Int),((t.ay 0).map edI,(((t.fst 0:Nat):Int),((t.lst 0:Nat):Int))))=N
 have hN1:N.1=((2*t.len:Nat):Int):=by rw[<-hNf]
 have hN2:N.2.2.1=((t.fst 0:Nat):Int):=by rw[<-hNf]
 generalize hZ:(List.replicate 256 (0:Int),(([]:List (List Int)),([]:List Int)))=Z
 generalize hnn:2*t.len=n at *
 generalize hll:t.lst 0=last at *
 -- the bytes VP VE for SS
 refine ew (λm x=>∃ (c:Nat) (jx:List Int),x=((Z,((N,(mkL n last,(jx,(([]:KM),(([]:List (List Bool)),(arr,(([]:List (List Int)),([]:List Int)))))))),())),((c:Int),()))/\m+c=256/\jx.length<=c/\Oq jx) (DQ t) ?_ N0 256 _ (by unfold N0;omega) ⟨0,[],rfl,rfl,by simp,by simp[Oq]⟩
 rintro m x ⟨c,jx,rfl,hm,hrl,hro⟩ k hk
 simp only
 rcases ap c 256 with hc|hc
 ·have n0:(0:Int)<=(c:Int):=by omega
  obtain⟨v,hv⟩:∃ v,arr[c]?=some v:=⟨arr[c]'(by rw[hao.1];exact hc),ah _⟩
  rw[decide_eq_true (show(c:Int)<256 by omega),cond_true,if_pos n0,ae,hv]
  simp only
  refine qi (P:=DQ t) λK hK=>?_
  cases hd:decide (IntKind.wrap .i64 v=((jx.length:Nat):Int))
  ·rw[cond_false,hK]
   simp only
   rw[dh (by omega)]
   exact hk (m-1) _ (by omega) ⟨c+1,jx,rfl,by omega,by omega,hro⟩
  ·rw[cond_true,if_pos (by simp;omega),if_pos (by simp;omega),hK]
   simp only
   rw[dh (by omega),j8 hc]
   refine hk (m-1) _ (by omega) ⟨c+1,jx++[(c:Int)],rfl,by omega,by simp;omega,by simp;omega,λv' hv'=>?_⟩
   rcases av.1 hv' with h1|h1
   ·exact hro.2 v' h1
   ·simp at h1;exact⟨c,hc,h1⟩
 ·rw[decide_eq_false (show ¬(c:Int)<256 by omega),cond_false]
  rw[if_pos ⟨by omega,by omega⟩,if_pos (by rw[ae];omega),if_pos (by omega),ae,ae,ND (show t.fst 0<n by omega)]
  simp only
  rw[if_pos (by omega)]
  have hbs:=NC (n:=n) (x:=t.fst 0) (by omega)
  rw[hbs]
  obtain⟨g0,hg0,hc0⟩:=Eb (n:=n) hn (E:=t.ay 0) (by omega) hin (((t.fst 0:Nat):Int),((last:Nat):Int)) (λq=>decide (q=t.fst 0))
  rw[hNf]at hg0
  rw[aa hg0]
  simp only
  have hs0:Sup n g0:=Bc hin (λq hq=>by rw[decide_eq_true_eq]at hq;omega) hc0
  have hb0:BOk N n last jx arr (N,(mkL n last,(jx,(([]:KM),(([]:List (List Bool)),(arr,(([]:List (List Int)),([]:List Int)))))))) []:=
   ⟨rfl,rfl,rfl,λk=>⟨λh=>(by cases h),λ⟨g,h,_⟩=>(by simp at h)⟩,rfl,rfl,rfl,λg h=>(by simp at h)⟩
  obtain⟨r,b1,gs1,e1,ob1,nx1,Vp⟩:=En hn (by omega) hb0 (by simp) hs0
  rw[aa e1]
  simp only
  have Vq:Bd t g0 gs1:=by
   rcases Vp with⟨_,h|h⟩|⟨rfl,_⟩
   ·have:=hc0.1 (t.fst 0) (by simp)
    rw[h]at this;cases this
   ·simp at h
   ·exact⟨by simp,λg hg=>by simp at hg;subst hg;exact .ini hc0,rfl⟩
  refine ew (λm x=>∃ (i:Nat) (b:BI) (gs:List (Nat->Bool)),x=((Z,(b,())),((i:Int),()))/\BOk N n last jx arr b gs/\Bd t g0 gs/\m+i=2000/\i<=gs.length/\b.2.2.2.2.2.2.1.length=i) (DQ t) ?_ N0 2000 _ (by unfold N0;omega) ⟨0,b1,gs1,rfl,ob1,Vq,rfl,aH _,by rw[nx1];rfl⟩
  rintro m x ⟨i,b,gs,rfl,ob,og,hm,hi,hnx⟩ k hk
  have hle:=og.le hw
  have hsl:b.2.2.2.2.1.length=gs.length:=by rw[ob.dD,bN]
  simp only[hsl]
  rcases ap i gs.length with hil|hil
  ·rw[decide_eq_true (show(i:Int)<((gs.length:Nat):Int) by omega),cond_true,decide_eq_false (show ¬(2000:Int)<((gs.length:Nat):Int) by omega),cond_false]
   refine ew (λm x=>∃ (j:Nat) (b':BI) (gs':List (Nat->Bool)) (row:List Int),x=((Z,(b',())),(row,((j:Int),())))/\BOk N n last jx arr b' gs'/\Bd t g0 gs'/\m+j=jx.length/\i<gs'.length/\b'.2.2.2.2.2.2.1.length=i/\row.length=j) (DQ t) ?_ N0 jx.length _ (by have:=hro.1;unfold N0;omega) ⟨0,b,gs,[],rfl,ob,og,rfl,hil,hnx,rfl⟩
   rintro m' x ⟨j,b',gs',row,rfl,ob',og',hm',Qe,Vr,gS⟩ k' hk'
   simp only[ob.rp]
   have VQ:=og'.le hw
   rcases ap j jx.length with hj|hj
   ·obtain⟨cc,hcc,hcv⟩:=hro.2 _ (bo hj)
    have hgj:jx[j]?=some (cc:Int):=by rw[ah hj,hcv]
    have hgi:gs'[i]?=some gs'[i]:=ah Qe
    have hmi:gs'[i]∈gs':=bo Qe
    have dB:b'.2.2.2.2.1[i]?=some (bsN n gs'[i]):=by rw[ob'.dD,bS,hgi];rfl
    generalize gs'[i]=gi at hmi dB
    have Dg:=hro.1
    rw[decide_eq_true (show(j:Int)<((jx.length:Nat):Int) by omega),cond_true,if_pos (by omega),ae,hgj]
    simp only
    rw[if_pos (by omega),ae,dB]
    simp only
    have h168:=Ni (n:=n) hn (E:=t.ay 0) (by omega) hin hS (((t.fst 0:Nat):Int),((last:Nat):Int)) gi hcc
    rw[hNf]at h168
    rw[aa h168]
    simp only
    obtain⟨g2,hg2,hc2⟩:=Eb (n:=n) hn (E:=t.ay 0) (by omega) hin (((t.fst 0:Nat):Int),((last:Nat):Int)) (a8 (t.ay 0) gi cc)
    rw[hNf]at hg2
    rw[aa hg2]
    simp only
    have hs2:Sup n g2:=Bc hin (GQ hin gi cc) hc2
    obtain⟨r2,b2,gs2,e2,ob2,nx2,Ss⟩:=En hn (by omega) ob' (by omega) hs2
    rw[aa e2]
    simp only
    rw[if_pos (by simp;omega),if_pos (by simp;omega),dh (by omega)]
    refine hk' (m' - 1) _ (by omega) ⟨j+1,b2,gs2,row++[r2],rfl,ob2,?_,by omega,?_,by rw[nx2];exact Vr,by simp;omega⟩
    ·rcases Ss with⟨rfl,_⟩|⟨rfl,hnm⟩
     ·exact og'
     ·exact og'.push (.step hcc (og'.rch gi hmi) hc2) hnm
    ·rcases Ss with⟨rfl,_⟩|⟨rfl,_⟩
     ·exact Qe
     ·simp;omega
   ·rw[decide_eq_false (show ¬(j:Int)<((jx.length:Nat):Int) by omega),cond_false]
    rw[if_pos (by simp;omega),if_pos (by simp;omega),dh (by omega)]
    exact hk (m-1) _ (by omega) ⟨i+1,_,gs',rfl,⟨ob'.nf,ob'.mks,ob'.rp,ob'.key,ob'.dD,ob'.cl,ob'.mark,ob'.sup⟩,og',by omega,by omega,by simp;omega⟩
  ·rw[decide_eq_false (show ¬(i:Int)<((gs.length:Nat):Int) by omega),cond_false]
   refine⟨_,rfl,?_⟩
   show b.2.2.2.2.2.2.2[0]?=_
   rw[ob.mark,bS,og.hd]
   have hmn:=GM t hc0
   rw[hll]at hmn
   have hln:last<n:=by omega
   simp only[dA,ib,hmn]
   simp[hln]
end
noncomputable section
def cls(c:Nat):Int:=if c=32\/c=9\/c=10\/c=13 then 1 else if 48<=c/\c<=57 then 2 else if(97<=c/\c<=122)\/(65<=c/\c<=90)\/c=95 then 3 else if 32<c/\c<127 then 4 else 0
theorem JP:∀ c:Fin 256,GB N0 (((c.val:Nat):Int),())=some ((cls c.val,()),()):=by decide +kernel
theorem NF:∀ c:Fin 256,p99 N0 (((c.val:Nat):Int),())=some ((cls c.val,()),()):=by decide +kernel
theorem Ep{c:Int}(h:0<=c/\c<=255):GB N0 (c,())=some ((cls c.toNat,()),()):=by
 have:=JP ⟨c.toNat,by omega⟩
 simp only[dm h.1]at this
 exact this
theorem Qf{c:Int}(h:0<=c/\c<=255):p99 N0 (c,())=some ((cls c.toNat,()),()):=by
 have:=NF ⟨c.toNat,by omega⟩
 simp only[dm h.1]at this
 exact this
def GR(k:Nat)(c:Int):Prop:=cls c.toNat=3\/(cls c.toNat=2/\k≠0)
def JQ(s:List Int):Prop:=1<=s.length/\s.length<=40/\∀ k c,s[k]?=some c->GR k c
def ie(s:List Int):Bool:=@decide (JQ s) (Classical.propDecidable _)
theorem Er{s:List Int}(h:JQ s):ie s=true:=@decide_eq_true _ (Classical.propDecidable _) h
theorem mF{s:List Int}(h:¬JQ s):ie s=false:=@decide_eq_false _ (Classical.propDecidable _) h
theorem CK{s:List Int}(hb:Bytes s)(hs:s.length<=maxLen):p67 N0 (s,())=some ((ie s,()),()):=by
 unfold p67
 simp only
 refine aZ (λm x r=>∃ j:Nat,x=((),((j:Int),()))/\m+j=s.length/\(∀ k c,k<j->s[k]?=some c->GR k c)/\r=some ((ie s,()),())) ?_ N0 s.length _ _ (by have:=j7 hs;omega) ⟨0,rfl,rfl,λk c h=>by omega,rfl⟩
 rintro m x r ⟨j,rfl,hm,fW,rfl⟩ k hk
 simp only
 rcases ap j s.length with hj|hj
 ·have n0:(0:Int)<=(j:Int):=by omega
  have hg:s[j]?=some s[j]:=ah hj
  generalize s[j]=c at hg
  rw[decide_eq_true (show(j:Int)<((s.length:Nat):Int) by omega),cond_true,if_pos n0,ae,hg]
  simp only
  rw[aa (Qf (hb.get hg))]
  simp only
  by_cases hok:GR j c
  ·refine aW ((),(false,())) (λK=>?_) ?_
   ·rcases hok with h|⟨h,h0⟩
    ·rw[h];rfl
    ·rw[h,show(!decide ((2:Int)=3))=true from rfl,cond_true,show(!decide ((2:Int)=2))=false from rfl,cond_false,decide_eq_false (show ¬(j:Int)=0 by omega)]
   ·simp only
    rw[cond_false,br hj hs]
    refine hk (m-1) _ _ (by omega) ⟨j+1,rfl,by omega,λk c' hk' hc'=>?_,rfl⟩
    by_cases e:k=j
    ·subst e
     rw[hg]at hc'
     injection hc' with hc'
     subst hc'
     exact hok
    ·exact fW k c' (by omega) hc'
  ·refine aW ((),(true,())) (λK=>?_) ?_
   ·unfold GR at hok
    have h3:¬cls c.toNat=3:=λh=>hok (.inl h)
    rw[decide_eq_false h3,aI,cond_true]
    by_cases h2:cls c.toNat=2
    ·have h0:j=0:=by
      rcases dz j with h|h
      ·exact h
      ·exact absurd (.inr ⟨h2,by omega⟩) hok
     rw[decide_eq_true h2,aB,cond_false,decide_eq_true (show(j:Int)=0 by omega)]
    ·rw[decide_eq_false h2,aI,cond_true]
   ·simp only
    rw[cond_true,mF λh=>hok (h.2.2 j c hg)]
 ·rw[decide_eq_false (show ¬(j:Int)<((s.length:Nat):Int) by omega),cond_false]
  refine aW ((),(ie s,())) (λK=>?_) rfl
  have Su:∀ k c,s[k]?=some c->GR k c:=λk c hc=>fW k c (bA (bm.1 hc).1 hj) hc
  by_cases h1:1<=s.length
  ·rw[decide_eq_true (show(1:Int)<=((s.length:Nat):Int) by omega),cond_true]
   by_cases h2:s.length<=40
   ·rw[decide_eq_true (show((s.length:Nat):Int)<=40 by omega),Er ⟨h1,h2,Su⟩]
   ·rw[decide_eq_false (show ¬((s.length:Nat):Int)<=40 by omega),mF λh=>h2 h.2.1]
  ·rw[decide_eq_false (show ¬(1:Int)<=((s.length:Nat):Int) by omega),cond_false,mF λh=>h1 h.1]
end
noncomputable section
theorem CL{s:List Int}(hb:Bytes s)(hs:s.length<=maxLen):p89 N0 (s,())=some ((ie s,()),()):=by
 unfold p89
 simp only
 by_cases h40:40<s.length
 ·refine aW ((),(true,())) (λK=>?_) ?_
  ·rw[decide_eq_true (show(40:Int)<((s.length:Nat):Int) by omega),cond_true]
  ·simp only
   rw[cond_true,mF λh=>by have:=h.2.1;omega]
 cases s with
 |nil=>
  refine aW ((),(true,())) (λK=>?_) ?_
  ·rfl
  ·simp only
   rw[cond_true,mF λh=>by have:=h.1;simp at this]
 |cons c r=>
  have hc:=hb c (by simp)
  have n0:(0:Int)<=0:=by omega
  have xB:∀ K:Unit×(Bool×Unit)->Option ((Bool×Unit)×Unit),(bif decide ((40:Int)<(((c::r:List Int).length:Nat):Int))then K ((),(true,()))else(bif decide ((c::r:List Int)=[])then K ((),(true,()))else(if(0:Int)<=0 then(match(c::r:List Int)[((0:Int)).toNat]? with|some v11=>(aj (GB N0 (v11,())) λv12=>K ((),((!decide (v12.1.1=3)),())))|none=>none)else none)))=K ((),((!decide (cls c.toNat=3)),())):=by
   intro K
   rw[decide_eq_false (show ¬(40:Int)<(((c::r:List Int).length:Nat):Int) by omega),cond_false,show decide ((c::r:List Int)=[])=false from rfl,cond_false,if_pos n0,AR]
   simp only
   rw[aa (Ep hc)]
  refine aW ((),((!decide (cls c.toNat=3)),())) (λK=>xB K) ?_
  simp only
  by_cases h3:cls c.toNat=3
  ·rw[decide_eq_true h3,aB,cond_false]
   refine aZ (λm x q=>∃ j:Nat,x=((),((j:Int),()))/\m+j=(c::r).length/\(∀ k d,k<j->(c::r)[k]?=some d->GR k d)/\q=some ((ie (c::r),()),())) ?_ N0 (c::r).length _ _ (by have:=j7 hs;omega) ⟨0,rfl,rfl,λk d h=>by omega,rfl⟩
   rintro m x q ⟨j,rfl,hm,fW,rfl⟩ k hk
   simp only
   rcases ap j (c::r).length with hj|hj
   ·have n1:(0:Int)<=(j:Int):=by omega
    have hg:(c::r)[j]?=some (c::r)[j]:=ah hj
    generalize (c::r)[j]=d at hg
    rw[decide_eq_true (show(j:Int)<(((c::r:List Int).length:Nat):Int) by omega),cond_true,if_pos n1,ae,hg]
    simp only
    rw[aa (Ep (hb.get hg))]
    simp only
    by_cases hok:cls d.toNat=2\/cls d.toNat=3
    ·refine aW ((),(false,())) (λK=>?_) ?_
     ·rcases hok with h|h <;> rw[h] <;> rfl
     ·simp only
      rw[cond_false,br hj hs]
      refine hk (m-1) _ _ (by omega) ⟨j+1,rfl,by omega,λk d' hk' hd'=>?_,rfl⟩
      by_cases e:k=j
      ·subst e
       rw[hg]at hd'
       injection hd' with hd'
       subst hd'
       rcases hok with h|h
       ·right
        refine⟨h,λhk0=>?_⟩
        subst hk0
        have:c=d:=by simpa using hg
        rw[<-this,h3]at h
        cases h
       ·exact .inl h
      ·exact fW k d' (by omega) hd'
    ·have h2:¬cls d.toNat=2:=λh=>hok (.inl h)
     have h3':¬cls d.toNat=3:=λh=>hok (.inr h)
     refine aW ((),(true,())) (λK=>?_) ?_
     ·rw[decide_eq_false h2,aI,cond_true,decide_eq_false h3',aI]
     ·simp only
      rw[cond_true,mF λh=>by
       rcases h.2.2 j d hg with h|h
       ·exact h3' h
       ·exact h2 h.1]
   ·rw[decide_eq_false (show ¬(j:Int)<(((c::r:List Int).length:Nat):Int) by omega),cond_false]
    rw[Er ⟨by simp,by omega,λk d hd=>fW k d (bA (bm.1 hd).1 hj) hd⟩]
  ·rw[decide_eq_false h3,aI,cond_true,mF λh=>by
    rcases h.2.2 0 c rfl with h|h
    ·exact h3 h
    ·exact h.2 rfl]
end
noncomputable section
abbrev RuI:=List Int×(Int×List Int)
def JR(r:RuI):Prop:=Bytes r.1/\r.1.length<=maxLen/\Bytes r.2.2/\r.2.2.length<=maxLen
def Es(s:List Int):Int:=match gk s with
 |.error e=>e
 |.ok t=>if t.null=true then 14 else 0
def GS(rs:List RuI)(i:Nat)(nm:List Int):Prop:=∃ j r,j<i/\rs[j]?=some r/\r.1=nm
noncomputable instance (rs:List RuI) (i:Nat) (nm:List Int):Decidable (GS rs i nm):=Classical.propDecidable _
def sP(rs:List RuI)(i:Nat)(r:RuI):Int:=
 if ie r.1=false then 8 else if GS rs i r.1 then 9 else if r.2.1<0\/2<r.2.1 then 1 else Es r.2.2
theorem Qg{rs:List RuI}(hs:rs.length<=maxLen){i:Nat}{r:RuI}(hr:rs[i]?=some r)(hok:JR r):p66 N0 (rs,((i:Int),()))=some ((sP rs i r,()),()):=by
 obtain⟨h1,h2,h3,h4⟩:=hok
 have hi:i<rs.length:=(bm.1 hr).1
 have n0:(0:Int)<=(i:Int):=by omega
 unfold p66
 simp only
 rw[if_pos n0,ae,hr]
 simp only
 rw[aa (CK h1 h2)]
 simp only
 unfold sP
 cases hn:ie r.1
 ·rw[aI,cond_true,if_pos rfl]
 rw[aB,cond_false,if_neg (by simp)]
 refine aZ (λm x q=>∃ j:Nat,x=((),((j:Int),()))/\m+j=i/\(∀ k r',k<j->rs[k]?=some r'->¬r'.1=r.1)/\q=some ((if GS rs i r.1 then 9 else if r.2.1<0\/2<r.2.1 then 1 else Es r.2.2,()),())) ?_ N0 i _ _ (by unfold N0;unfold maxLen at hs;omega) ⟨0,rfl,rfl,λk r' h=>by omega,rfl⟩
 rintro m x q ⟨j,rfl,hm,fW,rfl⟩ k hk
 simp only
 rcases ap j i with hj|hj
 ·have n1:(0:Int)<=(j:Int):=by omega
  have hg:rs[j]?=some (rs[j]'(by omega)):=ah _
  generalize rs[j]'(by omega)=r' at hg
  rw[decide_eq_true (show(j:Int)<(i:Int) by omega),cond_true,if_pos n1,ae,hg]
  simp only
  by_cases e:r'.1=r.1
  ·rw[decide_eq_true e,cond_true,if_pos ⟨j,r',hj,hg,e⟩]
  ·rw[decide_eq_false e,cond_false,br (show j<rs.length by omega) hs]
   refine hk (m-1) _ _ (by omega) ⟨j+1,rfl,by omega,λk' r2 hk' hr2=>?_,rfl⟩
   by_cases e2:k'=j
   ·subst e2
    rw[hg]at hr2
    injection hr2 with hr2
    subst hr2
    exact e
   ·exact fW k' r2 (by omega) hr2
 ·rw[decide_eq_false (show ¬(j:Int)<(i:Int) by omega),cond_false]
  have hnd:¬GS rs i r.1:=by
   rintro⟨k',r2,hk',hr2,e⟩
   exact fW k' r2 (by omega) hr2 e
  rw[if_neg hnd]
  refine aW ((),(decide (r.2.1<0\/2<r.2.1),())) (λK=>?_) ?_
  ·by_cases q1:r.2.1<0
   ·rw[decide_eq_true q1,cond_true,decide_eq_true (.inl q1)]
   ·rw[decide_eq_false q1,cond_false]
    have:decide (r.2.1<0\/2<r.2.1)=decide (2<r.2.1):=by rw[decide_eq_decide];exact⟨λh=>h.resolve_left q1,.inr⟩
    rw[this]
  ·simp only
   by_cases hk2:r.2.1<0\/2<r.2.1
   ·rw[if_pos hk2,decide_eq_true hk2,cond_true]
   ·rw[if_neg hk2,decide_eq_false hk2,cond_false,aa (P6 h3)]
    unfold Es
    cases hp:gk r.2.2 with
    |error e=>
     rcases pu hp with rfl|rfl <;> rfl
    |ok t=>
     obtain⟨q1,q2,q3⟩:=rZ h3 hp
     simp only[Jk]
     rw[decide_true,aB,cond_false,aa (P7 q1 (by omega))]
     simp only
     cases t.null <;> rfl
end
noncomputable section
def chk(rs:List RuI):Nat->List RuI->Nat×Int
 |i,[]=>(i,0)
 |i,r::rest=>if sP rs i r=0 then chk rs (i+1) rest else(i,sP rs i r)
def lN(rs:List RuI):Nat×Int:=if 60<rs.length then(rs.length,6)else chk rs 0 rs
theorem Qh{rs:List RuI}(hs:rs.length<=maxLen)(hok:∀ r∈rs,JR r):p35 N0 (rs,())=some ((((lN rs).1:Int),((lN rs).2,())),()):=by
 unfold p35 lN
 simp only
 by_cases h60:60<rs.length
 ·rw[if_pos h60,decide_eq_true (show(60:Int)<((rs.length:Nat):Int) by omega),cond_true]
 rw[if_neg h60,decide_eq_false (show ¬(60:Int)<((rs.length:Nat):Int) by omega),cond_false]
 refine aZ (λm x q=>∃ j:Nat,x=((),((j:Int),()))/\m+j=rs.length/\chk rs j (rs.drop j)=chk rs 0 rs/\q=some ((((chk rs 0 rs).1:Int),((chk rs 0 rs).2,())),())) ?_ N0 rs.length _ _ (by have:=j7 hs;omega) ⟨0,rfl,rfl,by rw[du],rfl⟩
 rintro m x q ⟨j,rfl,hm,hch,rfl⟩ k hk
 simp only
 rcases ap j rs.length with hj|hj
 ·have hg:rs[j]?=some rs[j]:=ah hj
  have lA:=hok _ (bo hj)
  rw[cQ hj]at hch
  generalize rs[j]=r at hg lA hch
  rw[decide_eq_true (show(j:Int)<((rs.length:Nat):Int) by omega),cond_true,aa (Qg hs hg lA)]
  simp only
  simp only[chk]at hch
  by_cases he:sP rs j r=0
  ·rw[if_pos he]at hch
   rw[decide_eq_true he,aB,cond_false,br hj hs]
   exact hk (m-1) _ _ (by omega) ⟨j+1,rfl,by omega,hch,rfl⟩
  ·rw[if_neg he]at hch
   rw[decide_eq_false he,aI,cond_true,<-hch]
 ·have:j=rs.length:=by omega
  subst this
  rw[decide_eq_false (show ¬((rs.length:Nat):Int)<((rs.length:Nat):Int) by omega),cond_false]
  rw[fw]at hch
  rw[<-hch]
  rfl
end
noncomputable section
theorem CM{s:List Int}(hb:Bytes s)(h12:s.length<=12){t:Rx}(h:gk s=.ok t):∃ d,Ct N0 (s,())=some ((d,((0:Int),())),())/\d.2.2[0]?=some (if t.null=true then 0 else -1):=by
 obtain⟨h1,h2,h3⟩:=rZ hb h
 have hw:=GN hb h
 obtain⟨d,hd,hm⟩:=NE h1 h2 (by omega)
 exact⟨d,Nz hb (by unfold maxLen;omega) h (NB h2 hd),hm⟩
theorem JS(k k':List Int)(v:Int):∀ x:KM,cW eqK k (ff eqK k' v x)=if k=k' then v else cW eqK k x:=by
 intro x
 induction x with
 |nil=>
  simp only[ff,cW,eqK]
  by_cases e:k=k' <;> simp[e]
 |cons p r ih=>
  simp only[ff]
  by_cases e:k'=p.1
  ·have:eqK k' p.1=true:=decide_eq_true e
   rw[this,cond_true]
   simp only[cW]
   rw[<-e]
   by_cases e2:k=k'
   ·rw[show eqK k k'=true from decide_eq_true e2,if_pos e2];rfl
   ·rw[show eqK k k'=false from decide_eq_false e2,if_neg e2];rfl
  ·have:eqK k' p.1=false:=decide_eq_false e
   rw[this,cond_false]
   simp only[cW]
   by_cases e2:k=p.1
   ·rw[show eqK k p.1=true from decide_eq_true e2,cond_true,cond_true]
    rw[if_neg]
    rintro rfl
    exact e e2
   ·rw[show eqK k p.1=false from decide_eq_false e2,cond_false,cond_false,ih]
def uW(rs:List RuI)(i:Nat)(m:KM):Prop:=∀ k,(0<cW eqK k m↔GS rs i k)/\0<=cW eqK k m/\cW eqK k m<=(i:Int)
theorem uW.next{rs:List RuI}{i:Nat}{m:KM}(h:uW rs i m){r:RuI}(hr:rs[i]?=some r):uW rs (i+1) (ff eqK r.1 (cW eqK r.1 m+1) m):=by
 intro k
 rw[JS]
 obtain⟨h1,h2,h3⟩:=h k
 by_cases e:k=r.1
 ·subst e
  rw[if_pos rfl]
  refine⟨⟨λ_=>⟨i,r,by omega,hr,rfl⟩,λ_=>by omega⟩,by omega,by omega⟩
 ·rw[if_neg e,h1]
  refine⟨⟨λ⟨j,r',a1,a2,a3⟩=>⟨j,r',by omega,a2,a3⟩,λ⟨j,r',a1,a2,a3⟩=>?_⟩,by omega,by omega⟩
  by_cases e2:j=i
  ·subst e2
   rw[hr]at a2
   injection a2 with a2
   subst a2
   exact absurd a3.symm e
  ·exact⟨j,r',by omega,a2,a3⟩
theorem Qi{rs:List RuI}{i:Nat}{r:RuI}(hr:rs[i]?=some r)(hok:JR r)(h12:r.2.2.length<=12){m:KM}(hm:uW rs i m):p88 N0 (r,(m,()))=some ((sP rs i r,()),()):=by
 obtain⟨h1,h2,h3,h4⟩:=hok
 unfold p88
 simp only
 rw[aa (CL h1 h2)]
 simp only
 unfold sP
 cases hn:ie r.1
 ·rw[aI,cond_true,if_pos rfl]
 rw[aB,cond_false,if_neg (by simp)]
 show(bif decide ((0:Int)<cW eqK r.1 m)then _ else _)=_
 by_cases hd:GS rs i r.1
 ·rw[decide_eq_true ((hm r.1).1.2 hd),cond_true,if_pos hd]
 rw[decide_eq_false (λh=>hd ((hm r.1).1.1 h)),cond_false,if_neg hd]
 refine aW ((),(decide (r.2.1<0\/2<r.2.1),())) (λK=>?_) ?_
 ·by_cases q1:r.2.1<0
  ·rw[decide_eq_true q1,cond_true,decide_eq_true (.inl q1)]
  ·rw[decide_eq_false q1,cond_false]
   have:decide (r.2.1<0\/2<r.2.1)=decide (2<r.2.1):=by rw[decide_eq_decide];exact⟨λh=>h.resolve_left q1,.inr⟩
   rw[this]
 ·simp only
  by_cases hk2:r.2.1<0\/2<r.2.1
  ·rw[if_pos hk2,decide_eq_true hk2,cond_true]
  ·rw[if_neg hk2,decide_eq_false hk2,cond_false]
   unfold Es
   cases hp:gk r.2.2 with
   |error e=>
    rw[aa (JK h3 h4 hp)]
    rcases pu hp with rfl|rfl <;> rfl
   |ok t=>
    obtain⟨d,hd2,hd3⟩:=CM h3 h12 hp
    rw[aa hd2]
    simp only
    rw[decide_true,aB,cond_false,aa (JJ hd3)]
    simp only
    cases t.null <;> rfl
theorem Qj{rs:List RuI}(hs:rs.length<=maxLen)(hok:∀ r∈rs,JR r)(h12:∀ r∈rs,r.2.2.length<=12):p58 N0 (rs,())=some ((((lN rs).1:Int),((lN rs).2,())),()):=by
 unfold p58 lN
 simp only
 by_cases h60:60<rs.length
 ·rw[if_pos h60,decide_eq_true (show(60:Int)<((rs.length:Nat):Int) by omega),cond_true]
 rw[if_neg h60,decide_eq_false (show ¬(60:Int)<((rs.length:Nat):Int) by omega),cond_false]
 refine aZ (λm x q=>∃ (j:Nat) (mp:KM),x=((mp,()),((j:Int),()))/\m+j=rs.length/\uW rs j mp/\chk rs j (rs.drop j)=chk rs 0 rs/\q=some ((((chk rs 0 rs).1:Int),((chk rs 0 rs).2,())),())) ?_ N0 rs.length _ _ (by have:=j7 hs;omega) ⟨0,[],rfl,rfl,λk=>⟨⟨λh=>absurd h (by simp[cW]),λ⟨j,_,h,_⟩=>by omega⟩,by simp[cW],by simp[cW]⟩,by rw[du],rfl⟩
 rintro m x q ⟨j,mp,rfl,hm,hsn,hch,rfl⟩ k hk
 simp only
 rcases ap j rs.length with hj|hj
 ·have hg:rs[j]?=some rs[j]:=ah hj
  have lA:=hok _ (bo hj)
  have Ot:=h12 _ (bo hj)
  rw[cQ hj]at hch
  generalize rs[j]=r at hg lA Ot hch
  have n0:(0:Int)<=(j:Int):=by omega
  rw[decide_eq_true (show(j:Int)<((rs.length:Nat):Int) by omega),cond_true,if_pos n0,ae,hg]
  simp only
  rw[aa (Qi hg lA Ot hsn)]
  simp only
  simp only[chk]at hch
  by_cases he:sP rs j r=0
  ·rw[if_pos he]at hch
   rw[decide_eq_true he,aB,cond_false,br hj hs]
   show k (((ff eqK r.1 (IntKind.wrap .i64 (cW eqK r.1 mp+1)) mp),()),_)=_
   have e1:IntKind.wrap .i64 (cW eqK r.1 mp+1)=cW eqK r.1 mp+1:=by
    obtain⟨_,q1,q2⟩:=hsn r.1
    obtain⟨u,hu⟩:∃ u:Nat,cW eqK r.1 mp=(u:Int):=⟨_,(dm q1).symm⟩
    rw[hu]at q2 |-
    rw[dh (by omega)]
    rfl
   rw[e1]
   exact hk (m-1) _ _ (by omega) ⟨j+1,_,rfl,by omega,hsn.next hg,hch,rfl⟩
  ·rw[if_neg he]at hch
   rw[decide_eq_false he,aI,cond_true,<-hch]
 ·have:j=rs.length:=by omega
  subst this
  rw[decide_eq_false (show ¬((rs.length:Nat):Int)<((rs.length:Nat):Int) by omega),cond_false]
  rw[fw]at hch
  rw[<-hch]
  rfl
end
noncomputable section
abbrev NG:=Bool×Int
abbrev PrI:=Int×(List Int×(List NG×(Bool×(Int×List Int))))
abbrev LvI:=Int×List Int
abbrev GrI:=List RuI×(List (List Int)×(List PrI×(List LvI×Int)))
structure tf(g:GrI):Prop where
 r0:g.1.length<=100000
 r1:∀ r∈g.1,JR r
 s0:g.2.1.length<=100000
 s1:∀ s∈g.2.1,Bytes s/\s.length<=maxLen
 p0:g.2.2.1.length<=100000
 p1:∀ p∈g.2.2.1,Bytes p.2.1/\p.2.1.length<=maxLen
 p2:∀ p∈g.2.2.1,p.2.2.1.length<=100000
 p3:∀ p∈g.2.2.1,p.2.2.2.2.2.length<=100000
 l0:g.2.2.2.1.length<=100000
 l1:∀ l∈g.2.2.2.1,l.2.length<=100000
theorem le_max{n:Nat}(h:n<=100000):n<=maxLen:=by unfold maxLen;omega
theorem il{n:Nat}(h:n<=100000):n<N0:=by unfold N0;omega
theorem Et{α A R:Type}{body:A->(A->Option R)->Option R}(l:List α)(f:Nat->A)(bad:α->Bool)(found:Nat->Option R)(after:Option R)
 (step:∀ j,(h:j<l.length)->∀ k,body (f j) k=if bad l[j]=true then found j else k (f (j+1))) (fin:∀ k,body (f l.length) k=after) (n:Nat) (hn:l.length<n):
 aE body n (f 0)=match l.findIdx? bad with|some j=>found j|none=>after:=by
 have:=bQ (body:=body) f (λj=>match(l.drop j).findIdx? bad with|some i=>found (j+i)|none=>after) l.length (λj hj k hk=>by
  rcases ap j l.length with hi|hi
  ·rw[step j hi,cQ hi,List.findIdx?_cons]
   cases hb:bad l[j]
   ·simp only[au,if_false]
    rw[hk hi]
    cases(l.drop (j+1)).findIdx? bad with
    |none=>rfl
    |some i=>simp only[dA];congr 1;omega
   ·simp
  ·have e:j=l.length:=by omega
   rw[e,fin];simp) n 0 (aH _) (by omega)
 rw[this,du]
 cases l.findIdx? bad with
 |none=>rfl
 |some i=>simp
def cP{α:Type}(E:Nat->α->Int):Nat->List α->Option (Int×Nat)
 |_,[]=>none
 |i,a::r=>if E i a=0 then cP E (i+1) r else some (E i a,i)
theorem se{α A R:Type}{body:A->(A->Option R)->Option R}(l:List α)(f:Nat->A)(E:Nat->α->Int)(found:Int->Nat->Option R)(after:Option R)
 (step:∀ j,(h:j<l.length)->∀ k,body (f j) k=if E j l[j]=0 then k (f (j+1))else found (E j l[j]) j) (fin:∀ k,body (f l.length) k=after) (n:Nat) (hn:l.length<n):
 aE body n (f 0)=match cP E 0 l with|some p=>found p.1 p.2|none=>after:=by
 have:=bQ (body:=body) f (λj=>match cP E j (l.drop j)with|some p=>found p.1 p.2|none=>after) l.length (λj hj k hk=>by
  rcases ap j l.length with hi|hi
  ·rw[step j hi,cQ hi]
   simp only[cP]
   by_cases hb:E j l[j]=0
   ·rw[if_pos hb,if_pos hb,hk hi]
   ·rw[if_neg hb,if_neg hb]
  ·have e:j=l.length:=by omega
   rw[e,fin];simp[cP]) n 0 (aH _) (by omega)
 rw[this,du]
theorem xc{α:Type}(l:List α)(i:Nat)(h:i<=l.length):cz l 0 (i:Int)=l.take i:=by
 unfold cz
 simp
def gu(g:GrI)(s:NG):Bool:=
 if s.1=true then decide (0<=s.2)&&decide (s.2<(g.2.1.length:Int))else decide (0<=s.2)&&(match g.1[s.2.toNat]? with|some r=>decide (r.2.1=0)|none=>false)
theorem CN(g:GrI)(s:NG):p92 N0 (g,(s,()))=some ((gu g s,()),()):=by
 obtain⟨b,n⟩:=s
 unfold p92 gu
 simp only
 cases b
 ·simp only[au,if_false,cond_false]
  refine aW ((),(decide (0<=n)&&(match g.1[n.toNat]? with|some r=>decide (r.2.1=0)|none=>false),())) (λK=>?_) rfl
  by_cases h0:0<=n
  ·rw[decide_eq_true h0,cond_true,bI]
   by_cases h1:n<((g.1.length:Nat):Int)
   ·rw[decide_eq_true h1,cond_true,if_pos h0,ah (show n.toNat<g.1.length by omega)]
   ·rw[decide_eq_false h1,cond_false,bn (show g.1.length<=n.toNat by omega)]
  ·rw[decide_eq_false h0,cond_false,dI]
 ·simp only[if_true,cond_true]
  refine aW ((),(decide (0<=n)&&decide (n<(g.2.1.length:Int)),())) (λK=>?_) rfl
  by_cases h0:0<=n
  ·rw[decide_eq_true h0,cond_true,bI]
  ·rw[decide_eq_false h0,cond_false,dI]
theorem CO(g:GrI)(s:NG):p68 N0 (g,(s,()))=some ((gu g s,()),()):=by
 obtain⟨b,n⟩:=s
 unfold p68 gu
 simp only
 cases b
 ·simp only[au,if_false,cond_false]
  refine aW ((),(decide (0<=n)&&(match g.1[n.toNat]? with|some r=>decide (r.2.1=0)|none=>false),())) (λK=>?_) rfl
  by_cases h0:0<=n
  ·rw[decide_eq_true h0,cond_true,bI]
   by_cases h1:n<((g.1.length:Nat):Int)
   ·rw[decide_eq_true h1,cond_true,if_pos h0,ah (show n.toNat<g.1.length by omega)]
   ·rw[decide_eq_false h1,cond_false,bn (show g.1.length<=n.toNat by omega)]
  ·rw[decide_eq_false h0,cond_false,dI]
 ·simp only[if_true,cond_true]
  refine aW ((),(decide (0<=n)&&decide (n<(g.2.1.length:Int)),())) (λK=>?_) rfl
  by_cases h0:0<=n
  ·rw[decide_eq_true h0,cond_true,bI]
  ·rw[decide_eq_false h0,cond_false,dI]
def nK(p:PrI):Bool:=match p.2.2.1 with
 |[a,b,c]=>!a.1&&((b.1&&decide (b.2=p.1))&&!c.1)
 |_=>false
theorem Ou{p:PrI}(h:¬p.2.2.1.length=3):nK p=false:=by
 unfold nK
 split
 ·rename_i e;rw[e]at h;simp at h
 ·rfl
theorem Qk(p:PrI):p93 N0 (p,())=some ((nK p,()),()):=by
 obtain⟨s,c,body,par,pr,hi⟩:=p
 unfold p93
 simp only
 refine aW ((),(nK (s,(c,(body,(par,(pr,hi))))),())) (λK=>?_) rfl
 by_cases h3:body.length=3
 ·rw[decide_eq_true (show((body.length:Nat):Int)=3 by omega),cond_true]
  match body,h3 with
  |[(a1,a2),(b1,b2),(c1,c2)],_=>
   show(if(0:Int)<=0 then _ else _)=_
   rw[if_pos (by omega)]
   show(bif !a1 then _ else _)=_
   cases a1
   ·rw[aI,cond_true]
    rw[if_pos (by omega)]
    show(bif(bif(b1 == true)then decide (b2=s)else false)then _ else _)=_
    cases b1
    ·rfl
    ·show(bif decide (b2=s)then _ else _)=_
     by_cases e:b2=s
     ·rw[decide_eq_true e,cond_true,if_pos (by omega)]
      show K ((),(!c1,()))=_
      simp[nK,e]
     ·rw[decide_eq_false e,cond_false]
      simp[nK,e]
   ·rfl
 ·rw[decide_eq_false (show ¬((body.length:Nat):Int)=3 by omega),cond_false,Ou h3]
theorem Ql(p:PrI):p69 N0 (p,())=some ((nK p,()),()):=by
 obtain⟨s,c,body,par,pr,hi⟩:=p
 unfold p69
 simp only
 refine aW ((),(nK (s,(c,(body,(par,(pr,hi))))),())) (λK=>?_) rfl
 by_cases h3:body.length=3
 ·rw[decide_eq_true (show((body.length:Nat):Int)=3 by omega),cond_true]
  match body,h3 with
  |[(a1,a2),(b1,b2),(c1,c2)],_=>
   show(if(0:Int)<=0 then _ else _)=_
   rw[if_pos (by omega)]
   show(bif !a1 then _ else _)=_
   cases a1
   ·rw[aI,cond_true]
    rw[if_pos (by omega)]
    show(bif b1 then _ else _)=_
    cases b1
    ·rfl
    ·rw[cond_true,if_pos (by omega)]
     show(bif decide (b2=s)then _ else _)=_
     by_cases e:b2=s
     ·rw[decide_eq_true e,cond_true,if_pos (by omega)]
      show K ((),(!c1,()))=_
      simp[nK,e]
     ·rw[decide_eq_false e,cond_false]
      simp[nK,e]
   ·rfl
 ·rw[decide_eq_false (show ¬((body.length:Nat):Int)=3 by omega),cond_false,Ou h3]
def kc(g:GrI)(i:Nat)(s:List Int):Int:=
 if ie s=false then 8 else if(g.2.1.take i).any (λx=>decide (x=s))||g.1.any (λr=>decide (r.1=s))then 9 else 0
theorem Eu{g:GrI}{i:Nat}{s:List Int}(h:ie s=false):kc g i s=8:=by unfold kc;rw[if_pos h]
theorem yx{g:GrI}{i:Nat}{s:List Int}(h:ie s=true)(h2:((g.2.1.take i).any (λx=>decide (x=s))||g.1.any (λr=>decide (r.1=s)))=true):kc g i s=9:=by unfold kc;rw[if_neg (by rw[h];simp),if_pos h2]
theorem Ev{g:GrI}{i:Nat}{s:List Int}(h:ie s=true)(h2:((g.2.1.take i).any (λx=>decide (x=s))||g.1.any (λr=>decide (r.1=s)))=false):kc g i s=0:=by unfold kc;rw[if_neg (by rw[h];simp),if_neg (by rw[h2];simp)]
theorem NH{l:List (List Int)}(hl:l.length<=100000)(s:List Int):MJ N0 (l,(s,()))=some ((match l.findIdx? (λx=>decide (x=s))with|some j=>(j:Int)|none=>-1,()),()):=by
 unfold MJ
 simp only
 refine(Et l (λj=>((),((j:Int),()))) (λx=>decide (x=s)) (λj=>some (((j:Int),()),())) (some ((-1,()),())) (λj h k=>?_) (λk=>?_) N0 (il hl)).trans ?_
 ·simp only
  rw[decide_eq_true (show(j:Int)<((l.length:Nat):Int) by omega),cond_true,if_pos (by omega),ae,ah h]
  simp only
  by_cases e:l[j]=s
  ·rw[decide_eq_true e.symm,cond_true,decide_eq_true e,if_pos rfl]
  ·rw[decide_eq_false (λh=>e h.symm),cond_false,decide_eq_false e,if_neg (by simp),br h (le_max hl)]
 ·simp only
  rw[decide_eq_false (by omega),cond_false]
 ·cases l.findIdx? (λx=>decide (x=s)) <;> rfl
theorem JT{α:Type}(l:List α)(f:α->Bool):decide ((0:Int)<=match l.findIdx? f with|some j=>(j:Int)|none=>-1)=l.any f:=by
 cases h:l.findIdx? f with
 |none=>
  rw[List.findIdx?_eq_none_iff]at h
  have:l.any f=false:=by
   rw[List.any_eq_false]
   intro x hx
   simpa using h x hx
  rw[this]
  rfl
 |some j=>
  obtain⟨h1,h2,_⟩:=List.findIdx?_eq_some_iff_getElem.1 h
  have:l.any f=true:=gL.2 ⟨_,bo h1,h2⟩
  rw[this]
  exact decide_eq_true (by simp)
theorem Qm{l:List (List Int)}(hl:l.length<=100000)(s:List Int):p90 N0 (l,(s,()))=some ((l.any (λx=>decide (x=s)),()),()):=by
 unfold p90
 simp only
 rw[aa (NH hl s)]
 simp only
 rw[JT]
theorem Qn{l:List RuI}(hl:l.length<=100000)(s:List Int):p91 N0 (l,(s,()))=some ((match l.findIdx? (λr=>decide (r.1=s))with|some j=>(j:Int)|none=>-1,()),()):=by
 unfold p91
 simp only
 refine(Et l (λj=>((),((j:Int),()))) (λr=>decide (r.1=s)) (λj=>some (((j:Int),()),())) (some ((-1,()),())) (λj h k=>?_) (λk=>?_) N0 (il hl)).trans ?_
 ·simp only
  rw[decide_eq_true (show(j:Int)<((l.length:Nat):Int) by omega),cond_true,if_pos (by omega),ae,ah h]
  simp only
  by_cases e:l[j].1=s
  ·rw[decide_eq_true e,cond_true,if_pos rfl]
  ·rw[decide_eq_false e,cond_false,if_neg (by simp),br h (le_max hl)]
 ·simp only
  rw[decide_eq_false (by omega),cond_false]
 ·cases l.findIdx? (λr=>decide (r.1=s)) <;> rfl
abbrev Flt:=Int×(Int×Int)
theorem Qo{g:GrI}(ok:tf g):p59 N0 (g,())=some (((if 300<g.2.1.length then((6:Int),((2:Int),(g.2.1.length:Int)))else match cP (kc g) 0 g.2.1 with|some p=>(p.1,((2:Int),(p.2:Int)))|none=>((0:Int),((0:Int),(0:Int)))),()),()):=by
 unfold p59
 simp only
 by_cases h3:300<g.2.1.length
 ·rw[decide_eq_true (show(300:Int)<((g.2.1.length:Nat):Int) by omega),cond_true,if_pos h3]
 rw[decide_eq_false (show ¬(300:Int)<((g.2.1.length:Nat):Int) by omega),cond_false,if_neg h3]
 refine(se g.2.1 (λj=>((((0:Int),((0:Int),(0:Int))),()),((j:Int),()))) (kc g) (λe j=>some (((e,(2,(j:Int))),()),())) (some (((0,(0,0)),()),())) (λj h k=>?_) (λk=>?_) N0 (il ok.s0)).trans ?_
 ·simp only
  have hs:=ok.s1 _ (bo h)
  rw[decide_eq_true (show(j:Int)<((g.2.1.length:Nat):Int) by omega),cond_true,if_pos (by omega),ae,ah h]
  simp only
  generalize g.2.1[j]=s at hs
  rw[aa (CL hs.1 hs.2)]
  simp only
  cases hn:ie s
  ·rw[Eu hn,aI,cond_true,if_neg (by omega)]
  rw[aB,cond_false]
  refine aW ((((0:Int),((0:Int),(0:Int))),()),((g.2.1.take j).any (λx=>decide (x=s))||g.1.any (λr=>decide (r.1=s)),())) (λK=>?_) ?_
  ·rw[if_pos ⟨by omega,by omega,by omega⟩,xc _ _ (by omega),aa (Qm (by rw[aL];have:=ok.s0;omega) s)]
   simp only
   cases(g.2.1.take j).any (λx=>decide (x=s))
   ·rw[cond_false,aa (Qn ok.r0 s)]
    simp only
    rw[JT,cT]
   ·rw[cond_true,dW]
  ·simp only
   cases h2:((g.2.1.take j).any (λx=>decide (x=s))||g.1.any (λr=>decide (r.1=s)))
   ·rw[Ev hn h2,cond_false,if_pos rfl,br h (le_max ok.s0)]
   ·rw[yx hn h2,cond_true,if_neg (by omega)]
 ·simp only
  rw[decide_eq_false (by omega),cond_false]
 ·cases cP (kc g) 0 g.2.1 <;> rfl
theorem Qp{g:GrI}(ok:tf g){i:Nat}{s:List Int}(hi:g.2.1[i]?=some s):p36 N0 (g,((i:Int),()))=some ((kc g i s,()),()):=by
 have hlt:i<g.2.1.length:=(bm.1 hi).1
 have hs:=ok.s1 _ (cJ hi)
 have h0:=ok.s0
 unfold p36
 simp only
 rw[if_pos (by omega),ae,hi]
 simp only
 rw[aa (CK hs.1 hs.2)]
 simp only
 cases hn:ie s
 ·rw[Eu hn,aI,cond_true]
 rw[aB,cond_false]
 have hlen:(g.2.1.take i).length=i:=by rw[aL];omega
 refine(fM (g.2.1.take i) (λx=>!decide (x=s)) (some ((9,()),())) (if g.1.any (λr=>decide (r.1=s))=true then some ((9,()),())else some ((0,()),())) (λj=>((),((j:Int),()))) (λj h k=>?_) (λk=>?_) N0 (by rw[hlen];exact il (by omega))).trans ?_
 ·simp only
  rw[decide_eq_true (show(j:Int)<(i:Int) by omega),cond_true,if_pos (by omega),ae,ah (show j<g.2.1.length by omega)]
  simp only
  rw[if_pos (show(0:Int)<=(i:Int) by omega)]
  rw[List.getElem_take]
  by_cases e:g.2.1[j]=s
  ·rw[decide_eq_true e,cond_true,if_neg (by simp)]
  ·rw[decide_eq_false e,cond_false,if_pos (by simp),br (show j<g.2.1.length by omega) (le_max h0)]
 ·simp only
  rw[hlen,decide_eq_false (by omega),cond_false]
  refine(fM g.1 (λr=>!decide (r.1=s)) (some ((9,()),())) (some ((0,()),())) (λj=>((),((j:Int),()))) (λj h k=>?_) (λk=>?_) N0 (il ok.r0)).trans ?_
  ·simp only
   rw[decide_eq_true (show(j:Int)<((g.1.length:Nat):Int) by omega),cond_true,if_pos (by omega),ae,ah h]
   simp only
   rw[if_pos (show(0:Int)<=(i:Int) by omega)]
   by_cases e:g.1[j].1=s
   ·rw[decide_eq_true e,cond_true,if_neg (by simp)]
   ·rw[decide_eq_false e,cond_false,if_pos (by simp),br h (le_max ok.r0)]
  ·simp only
   rw[decide_eq_false (by omega),cond_false]
  ·have:g.1.all (λr=>!decide (r.1=s))=!g.1.any (λr=>decide (r.1=s)):=by rw[List.not_any_eq_all_not]
   rw[this]
   cases g.1.any (λr=>decide (r.1=s)) <;> rfl
 ·have h1:(g.2.1.take i).all (λr=>!decide (r=s))=!(g.2.1.take i).any (λr=>decide (r=s)):=by rw[List.not_any_eq_all_not]
  rw[h1]
  cases h2:(g.2.1.take i).any (λr=>decide (r=s))
  ·rw[aI,if_pos rfl]
   cases h3:g.1.any (λr=>decide (r.1=s))
   ·rw[Ev hn (by rw[h2,h3];rfl),if_neg (by simp)]
   ·rw[yx hn (by rw[h2,h3];rfl),if_pos rfl]
  ·rw[yx hn (by rw[h2];rfl),aB,if_neg (by simp)]
end
noncomputable section
def qp(h:Int):Bool:=decide (0<=h/\h<=3)
def Be(g:GrI)(p:PrI):Int:=if ¬p.2.2.2.2.1=-1/\gu g (false,p.2.2.2.2.1)=false then 11 else if p.2.2.2.1=true/\nK p=false then 15 else 0
def Bf(g:GrI)(p:PrI):Int:=if p.2.2.2.2.2.all qp=true then Be g p else 1
def Bg(g:GrI)(p:PrI):Int:=if p.2.2.1.all (gu g)=true then Bf g p else 11
def nL(g:GrI)(i:Nat)(p:PrI):Int:=
 if p.1<0\/(g.2.1.length:Int)<=p.1 then 11 else if ie p.2.1=false then 8 else if 12<p.2.2.1.length then 6 else if ¬p.2.2.2.2.2.length=p.2.2.1.length-1 then 1
 else if(g.2.2.1.take i).all (λq=>!decide (q.2.1=p.2.1))=true then Bg g p else 9
theorem GU{g:GrI}{n:Int}(h:n<0):gu g (false,n)=false:=by
 unfold gu
 rw[if_neg (by simp),decide_eq_false (by omega),dI]
theorem xd{n:Nat}(h:n<=100000):IntKind.wrap .i64 ((n:Int)-1)=(n:Int)-1:=bD (by omega) (by omega)
theorem Qq{g:GrI}(ok:tf g){i:Nat}{p:PrI}(hi:g.2.2.1[i]?=some p):p60 N0 (g,((i:Int),()))=some ((nL g i p,()),()):=by
 have hlt:i<g.2.2.1.length:=(bm.1 hi).1
 have hm:=cJ hi
 have hs:=ok.p1 _ hm
 have hb:=ok.p2 _ hm
 have hh:=ok.p3 _ hm
 have h0:=ok.p0
 have hlen:(g.2.2.1.take i).length=i:=by rw[aL];omega
 unfold p60
 simp only
 rw[if_pos (by omega),ae,hi]
 simp only
 refine aW ((),(decide (p.1<0\/(g.2.1.length:Int)<=p.1),())) (λK=>?_) ?_
 ·by_cases q1:p.1<0
  ·rw[decide_eq_true q1,cond_true,decide_eq_true (.inl q1)]
  ·rw[decide_eq_false q1,cond_false]
   have:decide (p.1<0\/(g.2.1.length:Int)<=p.1)=decide ((g.2.1.length:Int)<=p.1):=by rw[decide_eq_decide];exact⟨λh=>h.resolve_left q1,.inr⟩
   rw[this]
 simp only
 unfold nL
 by_cases e1:p.1<0\/(g.2.1.length:Int)<=p.1
 ·rw[decide_eq_true e1,cond_true,if_pos e1]
 rw[decide_eq_false e1,cond_false,if_neg e1,aa (CL hs.1 hs.2)]
 simp only
 cases e2:ie p.2.1
 ·rw[aI,cond_true,if_pos rfl]
 rw[aB,cond_false,if_neg (show ¬(true=false) by simp)]
 by_cases e3:12<p.2.2.1.length
 ·rw[decide_eq_true (show(12:Int)<((p.2.2.1.length:Nat):Int) by omega),cond_true,if_pos e3]
 rw[decide_eq_false (show ¬(12:Int)<((p.2.2.1.length:Nat):Int) by omega),cond_false,if_neg e3,xd hb]
 have hw:(if((p.2.2.1.length:Nat):Int)-1<0 then(0:Int)else((p.2.2.1.length:Nat):Int)-1)=((p.2.2.1.length-1:Nat):Int):=by split <;> omega
 rw[hw]
 by_cases e4:p.2.2.2.2.2.length=p.2.2.1.length-1
 case neg=>rw[decide_eq_false (show ¬((p.2.2.2.2.2.length:Nat):Int)=((p.2.2.1.length-1:Nat):Int) by omega),aI,cond_true,if_pos e4]
 rw[decide_eq_true (show((p.2.2.2.2.2.length:Nat):Int)=((p.2.2.1.length-1:Nat):Int) by omega),aB,cond_false,if_neg (show ¬¬p.2.2.2.2.2.length=p.2.2.1.length-1 from λh=>h e4)]
 rw[if_pos ⟨by omega,by omega,by omega⟩,xc _ _ (by omega)]
 refine fM (g.2.2.1.take i) (λq=>!decide (q.2.1=p.2.1)) (some ((9,()),())) (some ((Bg g p,()),())) (λj=>((),((j:Int),()))) (λj h k=>?_) (λk=>?_) N0 (by rw[hlen];exact il (by omega)) |>.trans ?_
 ·simp only
  rw[decide_eq_true (show(j:Int)<(((g.2.2.1.take i).length:Nat):Int) by omega),cond_true,if_pos (by omega),ae,ah h]
  simp only
  by_cases e:(g.2.2.1.take i)[j].2.1=p.2.1
  ·rw[decide_eq_true e,cond_true,if_neg (by simp)]
  ·rw[decide_eq_false e,cond_false,if_pos (by simp),br h (le_max (by omega))]
 ·simp only
  rw[decide_eq_false (by omega),cond_false]
  refine fM p.2.2.1 (gu g) (some ((11,()),())) (some ((Bf g p,()),())) (λj=>((),((j:Int),()))) (λj h k=>?_) (λk=>?_) N0 (il hb) |>.trans ?_
  ·simp only
   rw[decide_eq_true (show(j:Int)<((p.2.2.1.length:Nat):Int) by omega),cond_true,if_pos (by omega),ae,ah h]
   simp only
   rw[aa (CN g _)]
   simp only
   cases gu g p.2.2.1[j]
   ·rw[aI,cond_true,if_neg (by simp)]
   ·rw[aB,cond_false,if_pos rfl,br h (le_max hb)]
  ·simp only
   rw[decide_eq_false (by omega),cond_false]
   refine fM p.2.2.2.2.2 qp (some ((1,()),())) (some ((Be g p,()),())) (λj=>((),((j:Int),()))) (λj h k=>?_) (λk=>?_) N0 (il hh) |>.trans ?_
   ·simp only
    rw[decide_eq_true (show(j:Int)<((p.2.2.2.2.2.length:Nat):Int) by omega),cond_true,if_pos (by omega),ae,ah h]
    simp only
    generalize p.2.2.2.2.2[j]=v
    refine aW ((),(!qp v,())) (λK=>?_) ?_
    ·unfold qp
     by_cases q1:v<0
     ·rw[decide_eq_true q1,cond_true,decide_eq_false (by omega)];rfl
     ·rw[decide_eq_false q1,cond_false]
      have:(!decide (0<=v/\v<=3))=decide (3<v):=by
       rw[<-decide_not,decide_eq_decide];omega
      rw[this]
    ·simp only
     cases qp v
     ·rw[aI,cond_true,if_neg (by simp)]
     ·rw[aB,cond_false,if_pos rfl,br h (le_max hh)]
   ·simp only
    rw[decide_eq_false (by omega),cond_false]
    unfold Be
    refine aW ((),(decide (¬p.2.2.2.2.1=-1/\gu g (false,p.2.2.2.2.1)=false),())) (λK=>?_) ?_
    ·by_cases q1:p.2.2.2.2.1=-1
     ·rw[decide_eq_true q1,aB,cond_false,decide_eq_false (λh=>h.1 q1)]
     ·rw[decide_eq_false q1,aI,cond_true]
      by_cases q2:p.2.2.2.2.1<0
      ·rw[decide_eq_true q2,cond_true,decide_eq_true ⟨q1,GU q2⟩]
      ·rw[decide_eq_false q2,cond_false,aa (CN g _)]
       simp only
       cases gu g (false,p.2.2.2.2.1)
       ·rw[decide_eq_true ⟨q1,rfl⟩];rfl
       ·rw[decide_eq_false (λh=>by cases h.2)];rfl
    ·simp only
     by_cases q1:¬p.2.2.2.2.1=-1/\gu g (false,p.2.2.2.2.1)=false
     ·rw[decide_eq_true q1,cond_true,if_pos q1]
     rw[decide_eq_false q1,cond_false,if_neg q1]
     refine aW ((),(decide (p.2.2.2.1=true/\nK p=false),())) (λK=>?_) ?_
     ·cases hp:p.2.2.2.1
      ·rw[cond_false,decide_eq_false (λh=>by cases h.1)]
      ·rw[cond_true,aa (Qk p)]
       simp only
       cases nK p <;> simp
     ·simp only
      by_cases q2:p.2.2.2.1=true/\nK p=false
      ·rw[decide_eq_true q2,cond_true,if_pos q2]
      ·rw[decide_eq_false q2,cond_false,if_neg q2]
   ·unfold Bf;split <;> rfl
  ·unfold Bg;split <;> rfl
 ·split <;> rfl
theorem Qr{g:GrI}(ok:tf g){i:Nat}{p:PrI}(hi:g.2.2.1[i]?=some p):p37 N0 (g,((i:Int),()))=some ((nL g i p,()),()):=by
 have hlt:i<g.2.2.1.length:=(bm.1 hi).1
 have hm:=cJ hi
 have hs:=ok.p1 _ hm
 have hb:=ok.p2 _ hm
 have hh:=ok.p3 _ hm
 have h0:=ok.p0
 have hlen:(g.2.2.1.take i).length=i:=by rw[aL];omega
 unfold p37
 simp only
 rw[if_pos (by omega),ae,hi]
 simp only
 refine aW ((),(decide (p.1<0\/(g.2.1.length:Int)<=p.1),())) (λK=>?_) ?_
 ·by_cases q1:p.1<0
  ·rw[decide_eq_true q1,cond_true,decide_eq_true (.inl q1)]
  ·rw[decide_eq_false q1,cond_false]
   have:decide (p.1<0\/(g.2.1.length:Int)<=p.1)=decide ((g.2.1.length:Int)<=p.1):=by rw[decide_eq_decide];exact⟨λh=>h.resolve_left q1,.inr⟩
   rw[this]
 simp only
 unfold nL
 by_cases e1:p.1<0\/(g.2.1.length:Int)<=p.1
 ·rw[decide_eq_true e1,cond_true,if_pos e1]
 rw[decide_eq_false e1,cond_false,if_neg e1,aa (CK hs.1 hs.2)]
 simp only
 cases e2:ie p.2.1
 ·rw[aI,cond_true,if_pos rfl]
 rw[aB,cond_false,if_neg (show ¬(true=false) by simp)]
 by_cases e3:12<p.2.2.1.length
 ·rw[decide_eq_true (show(12:Int)<((p.2.2.1.length:Nat):Int) by omega),cond_true,if_pos e3]
 rw[decide_eq_false (show ¬(12:Int)<((p.2.2.1.length:Nat):Int) by omega),cond_false,if_neg e3,xd hb]
 have hw:(if(0:Int)<((p.2.2.1.length:Nat):Int)-1 then((p.2.2.1.length:Nat):Int)-1 else(0:Int))=((p.2.2.1.length-1:Nat):Int):=by split <;> omega
 rw[hw]
 by_cases e4:p.2.2.2.2.2.length=p.2.2.1.length-1
 case neg=>rw[decide_eq_false (show ¬((p.2.2.2.2.2.length:Nat):Int)=((p.2.2.1.length-1:Nat):Int) by omega),aI,cond_true,if_pos e4]
 rw[decide_eq_true (show((p.2.2.2.2.2.length:Nat):Int)=((p.2.2.1.length-1:Nat):Int) by omega),aB,cond_false,if_neg (show ¬¬p.2.2.2.2.2.length=p.2.2.1.length-1 from λh=>h e4)]
 refine fM (g.2.2.1.take i) (λq=>!decide (q.2.1=p.2.1)) (some ((9,()),())) (some ((Bg g p,()),())) (λj=>((),((j:Int),()))) (λj h k=>?_) (λk=>?_) N0 (by rw[hlen];exact il (by omega)) |>.trans ?_
 ·simp only
  rw[decide_eq_true (show(j:Int)<(i:Int) by omega),cond_true,if_pos (by omega),ae,ah (show j<g.2.2.1.length by omega)]
  simp only
  rw[List.getElem_take]
  by_cases e:g.2.2.1[j].2.1=p.2.1
  ·rw[decide_eq_true e,cond_true,if_neg (by simp)]
  ·rw[decide_eq_false e,cond_false,if_pos (by simp),br h (le_max (by omega))]
 ·simp only
  rw[hlen,decide_eq_false (by omega),cond_false]
  refine fM p.2.2.1 (gu g) (some ((11,()),())) (some ((Bf g p,()),())) (λj=>((),((j:Int),()))) (λj h k=>?_) (λk=>?_) N0 (il hb) |>.trans ?_
  ·simp only
   rw[decide_eq_true (show(j:Int)<((p.2.2.1.length:Nat):Int) by omega),cond_true,if_pos (by omega),ae,ah h]
   simp only
   rw[aa (CO g _)]
   simp only
   cases gu g p.2.2.1[j]
   ·rw[aI,cond_true,if_neg (by simp)]
   ·rw[aB,cond_false,if_pos rfl,br h (le_max hb)]
  ·simp only
   rw[decide_eq_false (by omega),cond_false]
   refine fM p.2.2.2.2.2 qp (some ((1,()),())) (some ((Be g p,()),())) (λj=>((),((j:Int),()))) (λj h k=>?_) (λk=>?_) N0 (il hh) |>.trans ?_
   ·simp only
    rw[decide_eq_true (show(j:Int)<((p.2.2.2.2.2.length:Nat):Int) by omega),cond_true]
    have hg:p.2.2.2.2.2[((j:Int)).toNat]?=some p.2.2.2.2.2[j]:=by rw[ae];exact ah h
    rw[hg]
    generalize p.2.2.2.2.2[j]=v
    simp only
    refine aW ((),(!qp v,())) (λK=>?_) ?_
    ·rw[if_pos (by omega)]
     unfold qp
     by_cases q1:v<0
     ·rw[decide_eq_true q1,cond_true,decide_eq_false (by omega)];rfl
     ·rw[decide_eq_false q1,cond_false]
      have:(!decide (0<=v/\v<=3))=decide (3<v):=by
       rw[<-decide_not,decide_eq_decide];omega
      rw[this,if_pos (by omega)]
    ·simp only
     cases qp v
     ·rw[aI,cond_true,if_neg (by simp)]
     ·rw[aB,cond_false,if_pos rfl,br h (le_max hh)]
   ·simp only
    rw[decide_eq_false (by omega),cond_false]
    unfold Be
    refine aW ((),(decide (¬p.2.2.2.2.1=-1/\gu g (false,p.2.2.2.2.1)=false),())) (λK=>?_) ?_
    ·by_cases q1:p.2.2.2.2.1=-1
     ·rw[decide_eq_true q1,aB,cond_false,decide_eq_false (λh=>h.1 q1)]
     ·rw[decide_eq_false q1,aI,cond_true,aa (CO g _)]
      simp only
      cases gu g (false,p.2.2.2.2.1)
      ·rw[decide_eq_true ⟨q1,rfl⟩];rfl
      ·rw[decide_eq_false (λh=>by cases h.2)];rfl
    ·simp only
     by_cases q1:¬p.2.2.2.2.1=-1/\gu g (false,p.2.2.2.2.1)=false
     ·rw[decide_eq_true q1,cond_true,if_pos q1]
     rw[decide_eq_false q1,cond_false,if_neg q1]
     refine aW ((),(decide (p.2.2.2.1=true/\nK p=false),())) (λK=>?_) ?_
     ·cases hp:p.2.2.2.1
      ·rw[cond_false,decide_eq_false (λh=>by cases h.1)]
      ·rw[cond_true,aa (Ql p)]
       simp only
       cases nK p <;> simp
     ·simp only
      by_cases q2:p.2.2.2.1=true/\nK p=false
      ·rw[decide_eq_true q2,cond_true,if_pos q2]
      ·rw[decide_eq_false q2,cond_false,if_neg q2]
   ·unfold Bf;split <;> rfl
  ·unfold Bg;split <;> rfl
 ·split <;> rfl
end
noncomputable section
def ahead(g:GrI)(i:Nat):List Int:=(g.2.2.2.1.take i).flatMap λl=>l.2
theorem uX{g:GrI}{i:Nat}{l:LvI}(h:g.2.2.2.1[i]?=some l):ahead g (i+1)=ahead g i++l.2:=by
 unfold ahead
 rw[jF,h]
 simp
def uY(g:GrI)(i:Nat)(l:LvI)(k:Nat)(r:Int):Int:=
 if gu g (false,r)=false then 11 else if r∈ahead g i++l.2.take k then 9 else 0
def qq(g:GrI)(i:Nat)(l:LvI):Int:=
 if l.1<1\/3<l.1\/l.2.length=0\/60<=i then 1 else match cP (uY g i l) 0 l.2 with|some p=>p.1|none=>0
abbrev IM:=List (Int×Int)
def eqZ:Int->Int->Bool:=λa b=>decide (a=b)
theorem GV(k k' v:Int):∀ x:IM,cW eqZ k (ff eqZ k' v x)=if k=k' then v else cW eqZ k x:=by
 intro x
 induction x with
 |nil=>
  simp only[ff,cW,eqZ]
  by_cases e:k=k' <;> simp[e]
 |cons p r ih=>
  simp only[ff]
  by_cases e:k'=p.1
  ·have:eqZ k' p.1=true:=decide_eq_true e
   rw[this,cond_true]
   simp only[cW]
   rw[<-e]
   by_cases e2:k=k'
   ·rw[show eqZ k k'=true from decide_eq_true e2,if_pos e2];rfl
   ·rw[show eqZ k k'=false from decide_eq_false e2,if_neg e2];rfl
  ·have:eqZ k' p.1=false:=decide_eq_false e
   rw[this,cond_false]
   simp only[cW]
   by_cases e2:k=p.1
   ·rw[show eqZ k p.1=true from decide_eq_true e2,cond_true,cond_true]
    rw[if_neg]
    rintro rfl
    exact e e2
   ·rw[show eqZ k p.1=false from decide_eq_false e2,cond_false,cond_false,ih]
def Bh(L:List Int)(m:IM):Prop:=∀ k,cW eqZ k m=if k∈L then 1 else 0
theorem Bh.next{L:List Int}{m:IM}(h:Bh L m){r:Int}(hr:¬r∈L):Bh (L++[r]) (ff eqZ r (IntKind.wrap .i64 (cW eqZ r m+1)) m):=by
 intro k
 rw[GV,h r,if_neg hr]
 by_cases e:k=r
 ·subst e;simp;rfl
 ·rw[if_neg e,h k];simp[e]
theorem Ew{α A R:Type}{body:A->(A->Option R)->Option R}(l:List α)(I:Nat->A->Prop)(spec:Nat->Option R)
 (step:∀ j,(h:j<l.length)->∀ x,I j x->∀ k,(∀ y,I (j+1) y->k y=spec (j+1))->body x k=spec j) (fin:∀ x,I l.length x->∀ k,body x k=spec l.length):
 ∀ n j x,j<=l.length->l.length-j<n->I j x->aE body n x=spec j:=by
 intro n
 induction n with
 |zero=>intro j x _ h;omega
 |succ n ih=>
  intro j x hj hn hi
  rw[eJ]
  rcases ap j l.length with h|h
  ·exact step j h x hi _ (λy hy=>ih (j+1) y h (by omega) hy)
  ·have:j=l.length:=by omega
   subst this
   exact fin x hi _
theorem Qs{g:GrI}(ok:tf g):p61 N0 (g,())=some (((match cP (qq g) 0 g.2.2.2.1 with|some p=>(p.1,((4:Int),(p.2:Int)))|none=>((0:Int),((0:Int),(0:Int)))),()),()):=by
 unfold p61
 simp only
 rw[show(λ(a b:Int)=>decide (a=b))=eqZ from rfl]
 refine(Ew g.2.2.2.1 (λj x=>∃ m:IM,x=((((0:Int),((0:Int),(0:Int))),(m,())),((j:Int),()))/\Bh (ahead g j) m) (λj=>some (((match cP (qq g) j (g.2.2.2.1.drop j)with|some p=>(p.1,((4:Int),(p.2:Int)))|none=>((0:Int),((0:Int),(0:Int)))),()),())) (λj h x hx k hk=>?_) (λx hx k=>?_) N0 0 _ (aH _) (by rw[Nat.sub_zero];exact il ok.l0) ⟨[],rfl,λk=>by simp[cW,ahead]⟩).trans (by rw[du])
 ·obtain⟨m,rfl,hm⟩:=hx
  simp only
  have hl:=ok.l1 _ (bo h)
  have hg:g.2.2.2.1[j]?=some g.2.2.2.1[j]:=ah h
  rw[decide_eq_true (show(j:Int)<((g.2.2.2.1.length:Nat):Int) by omega),cond_true,if_pos (by omega),ae,hg,cQ h]
  generalize g.2.2.2.1[j]=l at hl hg
  simp only
  refine aW ((((0:Int),((0:Int),(0:Int))),(m,())),(decide (l.1<1\/3<l.1\/l.2.length=0\/60<=j),())) (λK=>?_) ?_
  ·by_cases q1:l.1<1
   ·rw[decide_eq_true q1,cond_true,decide_eq_true (.inl q1)]
   rw[decide_eq_false q1,cond_false]
   by_cases q2:3<l.1
   ·rw[decide_eq_true q2,cond_true,decide_eq_true (.inr (.inl q2))]
   rw[decide_eq_false q2,cond_false]
   by_cases q3:l.2.length=0
   ·rw[decide_eq_true (show((l.2.length:Nat):Int)=0 by omega),cond_true,decide_eq_true (.inr (.inr (.inl q3)))]
   rw[decide_eq_false (show ¬((l.2.length:Nat):Int)=0 by omega),cond_false]
   have:decide ((60:Int)<=(j:Int))=decide (l.1<1\/3<l.1\/l.2.length=0\/60<=j):=by rw[decide_eq_decide];omega
   rw[this]
  ·simp only
   simp only[cP]
   by_cases q:l.1<1\/3<l.1\/l.2.length=0\/60<=j
   ·have e1:qq g j l=1:=by unfold qq;rw[if_pos q]
    rw[decide_eq_true q,cond_true,e1,if_neg (by omega)]
   have e1:qq g j l=match cP (uY g j l) 0 l.2 with|some p=>p.1|none=>0:=by unfold qq;rw[if_neg q]
   rw[decide_eq_false q,cond_false]
   have hz:∀ k,uY g j l k=λr=>uY g j l k r:=λ_=>rfl
   refine(Ew l.2 (λi x=>∃ m:IM,x=((((0:Int),((0:Int),(0:Int))),(m,())),((i:Int),()))/\Bh (ahead g j++l.2.take i) m) (λi=>match cP (uY g j l) i (l.2.drop i)with|some p=>some (((p.1,((4:Int),(j:Int))),()),())|none=>some (((match cP (qq g) (j+1) (g.2.2.2.1.drop (j+1))with|some p=>(p.1,((4:Int),(p.2:Int)))|none=>((0:Int),((0:Int),(0:Int)))),()),())) (λi hi x hx k2 hk2=>?_) (λx hx k2=>?_) N0 0 _ (aH _) (by rw[Nat.sub_zero];exact il hl) ⟨m,rfl,by rw[List.take_zero,b9];exact hm⟩).trans ?_
   ·obtain⟨m,rfl,hm⟩:=hx
    simp only
    have hgi:l.2[i]?=some l.2[i]:=ah hi
    have htk:l.2.take (i+1)=l.2.take i++[l.2[i]]:=by rw[jF,hgi];rfl
    rw[decide_eq_true (show(i:Int)<((l.2.length:Nat):Int) by omega),cond_true,if_pos (by omega),ae,hgi,cQ hi]
    generalize l.2[i]=r at htk
    simp only
    rw[aa (CN g _)]
    simp only[cP]
    unfold uY
    cases hs:gu g (false,r)
    ·rw[aI,cond_true,if_pos rfl,if_neg (by omega)]
    rw[aB,cond_false,if_neg (show ¬(true=false) by simp),hm r]
    by_cases hr:r∈ahead g j++l.2.take i
    ·rw[if_pos hr,if_pos hr,show decide ((0:Int)<1)=true from rfl,cond_true,if_neg (by omega)]
    ·rw[if_neg hr,if_neg hr,show decide ((0:Int)<0)=false from rfl,cond_false,if_pos rfl,br hi (le_max hl)]
     have hn:=hm.next hr
     rw[hm r,if_neg hr]at hn
     exact hk2 _ ⟨_,rfl,by rw[htk,<-aN];exact hn⟩
   ·obtain⟨m,rfl,hm⟩:=hx
    simp only
    rw[decide_eq_false (by omega),cond_false,br h (le_max ok.l0),fw]
    simp only[cP]
    rw[cK]at hm
    exact hk _ ⟨m,rfl,by rw[uX hg];exact hm⟩
   ·rw[du]
    rw[e1]
    have hne:∀ (l':List Int) (i:Nat) (p:Int×Nat),cP (uY g j l) i l'=some p->¬p.1=0:=by
     intro l'
     induction l' with
     |nil=>intro i p h;cases h
     |cons a r ih=>
      intro i p h
      simp only[cP]at h
      split at h
      ·exact ih _ _ h
      ·rename_i hn;injection h with h;rw[<-h];exact hn
    cases hf:cP (uY g j l) 0 l.2 with
    |none=>simp only[if_true]
    |some p=>
     simp only
     rw[if_neg (hne _ _ _ hf)]
 ·obtain⟨m,rfl,hm⟩:=hx
  simp only
  rw[decide_eq_false (by omega),cond_false,fw]
  rfl
end
noncomputable section
theorem GW{g:GrI}{i:Nat}{r:Int}:r∈ahead g i↔∃ a l,a<i/\g.2.2.2.1[a]?=some l/\r∈l.2:=by
 unfold ahead
 rw[dV]
 constructor
 ·rintro⟨l,h1,h2⟩
  obtain⟨a,ha⟩:=kQ.1 h1
  rw[eB]at ha
  split at ha
  ·exact⟨a,l,by assumption,ha,h2⟩
  ·cases ha
 ·rintro⟨a,l,h1,h2,h3⟩
  refine⟨l,kQ.2 ⟨a,?_⟩,h3⟩
  rw[eB,if_pos h1,h2]
theorem Qu{g:GrI}(ok:tf g){i:Nat}{l:LvI}(hi:g.2.2.2.1[i]?=some l){k:Nat}{r:Int}(hk:l.2[k]?=some r):p70 N0 (g,((i:Int),((k:Int),())))=some ((decide (r∈ahead g i++l.2.take k),()),()):=by
 have hlt:i<g.2.2.2.1.length:=(bm.1 hi).1
 have hkt:k<l.2.length:=(bm.1 hk).1
 have h0:=ok.l0
 unfold p70
 simp only
 refine aZ (λm x q=>∃ a:Nat,x=((),((a:Int),()))/\m+a=i+1/\a<=i/\¬r∈ahead g a/\q=some ((decide (r∈ahead g i++l.2.take k),()),())) ?_ N0 (i+1) _ _ (by unfold N0;omega) ⟨0,rfl,rfl,aH _,by simp[ahead],rfl⟩
 rintro m x q ⟨a,rfl,hm,hai,hna,rfl⟩ kk hkk
 simp only
 rw[decide_eq_true (show(a:Int)<=(i:Int) by omega),cond_true]
 have ha:g.2.2.2.1[a]?=some (g.2.2.2.1[a]'(by omega)):=ah _
 have hla:=ok.l1 _ (bo (show a<g.2.2.2.1.length by omega))
 generalize g.2.2.2.1[a]'(by omega)=la at ha hla
 simp only[ae,ha,hi]
 refine aZ (λm x q=>∃ b:Nat,x=((),((b:Int),()))/\m+b=la.2.length/\¬r∈la.2.take b/\(a=i->b<=k)/\q=some ((decide (r∈ahead g i++l.2.take k),()),())) ?_ N0 la.2.length _ _ (by unfold N0;omega) ⟨0,rfl,rfl,by simp,λ_=>aH _,rfl⟩
 rintro m2 x q ⟨b,rfl,hm2,hnb,hbk,rfl⟩ k2 hk2
 simp only[ae]
 rw[if_pos (by omega)]
 rcases ap b la.2.length with hb|hb
 ·rw[decide_eq_true (show(b:Int)<((la.2.length:Nat):Int) by omega),cond_true]
  have hgb:la.2[b]?=some la.2[b]:=ah hb
  have htk:la.2.take (b+1)=la.2.take b++[la.2[b]]:=by rw[jF,hgb];rfl
  have hin:la.2[b]∈la.2:=bo hb
  simp only[hgb,hk]
  generalize la.2[b]=rb at htk hin hgb
  refine aW ((),(decide (a=i/\k<=b),())) (λK=>?_) ?_
  ·by_cases e:a=i
   ·rw[decide_eq_true (show(a:Int)=(i:Int) by omega),cond_true]
    have:decide ((k:Int)<=(b:Int))=decide (a=i/\k<=b):=by rw[decide_eq_decide];omega
    rw[this]
   ·rw[decide_eq_false (show ¬(a:Int)=(i:Int) by omega),cond_false,decide_eq_false (λh=>e h.1)]
  ·simp only
   by_cases e:a=i/\k<=b
   ·rw[decide_eq_true e,cond_true]
    obtain⟨rfl,hkb⟩:=e
    have hbk:=hbk rfl
    have:b=k:=by omega
    subst this
    rw[hi]at ha
    injection ha with ha
    subst ha
    rw[decide_eq_false (λh=>(av.1 h).elim hna hnb)]
   ·rw[decide_eq_false e,cond_false,if_pos (by omega),if_pos (by omega),if_pos (by omega),if_pos (by omega)]
    by_cases er:rb=r
    ·subst er
     rw[decide_eq_true rfl,cond_true,decide_eq_true]
     by_cases eai:a=i
     ·subst eai
      rw[hi]at ha
      injection ha with ha
      subst ha
      refine av.2 (.inr (kQ.2 ⟨b,?_⟩))
      rw[eB,if_pos (by omega),hgb]
     ·exact av.2 (.inl (GW.2 ⟨a,la,by omega,ha,hin⟩))
    ·rw[decide_eq_false er,cond_false,br hb (le_max hla)]
     refine hk2 (m2-1) _ _ (by omega) ⟨b+1,rfl,by omega,?_,λh=>by omega,rfl⟩
     rw[htk]
     intro h
     rcases av.1 h with h|h
     ·exact hnb h
     ·simp at h;exact er h.symm
 ·rw[decide_eq_false (show ¬(b:Int)<((la.2.length:Nat):Int) by omega),cond_false,br (show a<g.2.2.2.1.length by omega) (le_max h0)]
  have:b=la.2.length:=by omega
  subst this
  rw[cK]at hnb
  have wP:¬r∈ahead g (a+1):=by
   rw[uX ha]
   intro h
   exact(av.1 h).elim hna hnb
  have VS:a<i:=by
   rcases ap a i with h|h
   ·exact h
   ·exfalso
    have:a=i:=by omega
    subst this
    rw[hi]at ha
    injection ha with ha
    subst ha
    have:=hbk rfl
    omega
  exact hkk (m-1) _ _ (by omega) ⟨a+1,rfl,by omega,by omega,wP,rfl⟩
theorem Qv{g:GrI}(ok:tf g){i:Nat}{l:LvI}(hi:g.2.2.2.1[i]?=some l):p38 N0 (g,((i:Int),()))=some ((qq g i l,()),()):=by
 have hl:=ok.l1 _ (cJ hi)
 unfold p38
 simp only
 rw[if_pos (by omega),ae,hi]
 simp only
 refine aW ((),(decide (l.1<1\/3<l.1\/l.2.length=0\/60<=i),())) (λK=>?_) ?_
 ·by_cases q1:l.1<1
  ·rw[decide_eq_true q1,cond_true,decide_eq_true (.inl q1)]
  rw[decide_eq_false q1,cond_false]
  by_cases q2:3<l.1
  ·rw[decide_eq_true q2,cond_true,decide_eq_true (.inr (.inl q2))]
  rw[decide_eq_false q2,cond_false]
  by_cases q3:l.2.length=0
  ·rw[decide_eq_true (show((l.2.length:Nat):Int)=0 by omega),cond_true,decide_eq_true (.inr (.inr (.inl q3)))]
  rw[decide_eq_false (show ¬((l.2.length:Nat):Int)=0 by omega),cond_false]
  have:decide ((60:Int)<=(i:Int))=decide (l.1<1\/3<l.1\/l.2.length=0\/60<=i):=by rw[decide_eq_decide];omega
  rw[this]
 ·simp only
  unfold qq
  by_cases q:l.1<1\/3<l.1\/l.2.length=0\/60<=i
  ·rw[decide_eq_true q,cond_true,if_pos q]
  rw[decide_eq_false q,cond_false,if_neg q]
  refine(se l.2 (λj=>((),((j:Int),()))) (uY g i l) (λe _=>some ((e,()),())) (some ((0,()),())) (λj h k=>?_) (λk=>?_) N0 (il hl)).trans ?_
  ·simp only
   have hg:l.2[j]?=some l.2[j]:=ah h
   rw[decide_eq_true (show(j:Int)<((l.2.length:Nat):Int) by omega),cond_true,if_pos (by omega),ae,hg]
   generalize l.2[j]=r at hg
   simp only
   rw[aa (CO g _)]
   simp only
   unfold uY
   cases hs:gu g (false,r)
   ·rw[aI,cond_true,if_pos rfl,if_neg (by omega)]
   rw[aB,cond_false,if_neg (show ¬(true=false) by simp),aa (Qu ok hi hg)]
   simp only
   by_cases hr:r∈ahead g i++l.2.take j
   ·rw[if_pos hr,decide_eq_true hr,cond_true,if_neg (by omega)]
   ·rw[if_neg hr,decide_eq_false hr,cond_false,if_pos rfl,br h (le_max hl)]
  ·simp only
   rw[decide_eq_false (by omega),cond_false]
  ·cases cP (uY g i l) 0 l.2 <;> rfl
def Ex(g:GrI):Flt:=if g.2.2.2.2<0\/(g.2.1.length:Int)<=g.2.2.2.2 then(11,(5,0))else(0,(0,0))
def Bi(g:GrI):Flt:=match cP (qq g) 0 g.2.2.2.1 with
 |some p=>(p.1,(4,(p.2:Int)))
 |none=>Ex g
def Ey(g:GrI):Flt:=if 200<g.2.2.1.length then(6,(3,(g.2.2.1.length:Int)))else match cP (nL g) 0 g.2.2.1 with
 |some p=>(p.1,(3,(p.2:Int)))
 |none=>Bi g
def Ez(g:GrI):Flt:=if 300<g.2.1.length then(6,(2,(g.2.1.length:Int)))else match cP (kc g) 0 g.2.1 with
 |some p=>(p.1,(2,(p.2:Int)))
 |none=>Ey g
def ig(g:GrI):Flt:=
 if ¬(lN g.1).2=0 then((lN g.1).2,(1,((lN g.1).1:Int)))else Ez g
def gP(v:Flt):Option ((Int×(Int×(Int×Unit)))×Unit):=some ((v.1,(v.2.1,(v.2.2,()))),())
theorem xe{α:Type}{E:Nat->α->Int}:∀ {l:List α} {i:Nat} {p:Int×Nat},cP E i l=some p->¬p.1=0:=by
 intro l
 induction l with
 |nil=>intro i p h;cases h
 |cons a r ih=>
  intro i p h
  simp only[cP]at h
  split at h
  ·exact ih h
  ·rename_i hn;injection h with h;rw[<-h];exact hn
theorem JU{g:GrI}(ok:tf g)(h12:∀ r∈g.1,r.2.2.length<=12):p31 N0 (g,())=some ((ig g,()),()):=by
 unfold p31 ig
 simp only
 rw[aa (Qj (le_max ok.r0) ok.r1 h12)]
 simp only
 by_cases e1:(lN g.1).2=0
 case neg=>rw[decide_eq_false e1,aI,cond_true,if_pos e1]
 rw[decide_eq_true e1,aB,cond_false,if_neg (show ¬¬(lN g.1).2=0 from λh=>h e1),aa (Qo ok)]
 simp only
 unfold Ez
 by_cases e2:300<g.2.1.length
 ·rw[if_pos e2,if_pos e2];rfl
 rw[if_neg e2,if_neg e2]
 cases e3:cP (kc g) 0 g.2.1 with
 |some p=>
  simp only
  rw[decide_eq_false (xe e3),aI,cond_true]
 |none=>
 simp only
 rw[decide_true,aB,cond_false]
 unfold Ey
 by_cases e4:200<g.2.2.1.length
 ·rw[decide_eq_true (show(200:Int)<((g.2.2.1.length:Nat):Int) by omega),cond_true,if_pos e4]
 rw[decide_eq_false (show ¬(200:Int)<((g.2.2.1.length:Nat):Int) by omega),cond_false,if_neg e4]
 refine(se g.2.2.1 (λj=>((((0:Int),((0:Int),(0:Int))),()),((j:Int),()))) (nL g) (λe j=>some (((e,(3,(j:Int))),()),())) (some ((Bi g,()),())) (λj h k=>?_) (λk=>?_) N0 (il ok.p0)).trans ?_
 ·simp only
  rw[decide_eq_true (show(j:Int)<((g.2.2.1.length:Nat):Int) by omega),cond_true,aa (Qq ok (ah h))]
  simp only
  by_cases e:nL g j g.2.2.1[j]=0
  ·rw[decide_eq_true e,aB,cond_false,if_pos e,br h (le_max ok.p0)]
  ·rw[decide_eq_false e,aI,cond_true,if_neg e]
 ·simp only
  rw[decide_eq_false (by omega),cond_false,aa (Qs ok)]
  simp only
  unfold Bi
  cases e5:cP (qq g) 0 g.2.2.2.1 with
  |some p=>
   simp only
   rw[decide_eq_false (xe e5),aI,cond_true]
  |none=>
   simp only
   rw[decide_true,aB,cond_false]
   refine aW ((((0:Int),((0:Int),(0:Int))),()),(decide (g.2.2.2.2<0\/(g.2.1.length:Int)<=g.2.2.2.2),())) (λK=>?_) ?_
   ·by_cases q1:g.2.2.2.2<0
    ·rw[decide_eq_true q1,cond_true,decide_eq_true (.inl q1)]
    ·rw[decide_eq_false q1,cond_false]
     have:decide (g.2.2.2.2<0\/(g.2.1.length:Int)<=g.2.2.2.2)=decide ((g.2.1.length:Int)<=g.2.2.2.2):=by rw[decide_eq_decide];exact⟨λh=>h.resolve_left q1,.inr⟩
     rw[this]
   ·simp only
    unfold Ex
    by_cases q:g.2.2.2.2<0\/(g.2.1.length:Int)<=g.2.2.2.2
    ·rw[decide_eq_true q,cond_true,if_pos q]
    ·rw[decide_eq_false q,cond_false,if_neg q]
 ·cases cP (nL g) 0 g.2.2.1 <;> rfl
theorem JV{g:GrI}(ok:tf g):p13 N0 (g,())=some (((ig g).1,((ig g).2.1,((ig g).2.2,()))),()):=by
 unfold p13 ig
 simp only
 rw[aa (Qh (le_max ok.r0) ok.r1)]
 simp only
 by_cases e1:(lN g.1).2=0
 case neg=>rw[decide_eq_false e1,aI,cond_true,if_pos e1]
 rw[decide_eq_true e1,aB,cond_false,if_neg (show ¬¬(lN g.1).2=0 from λh=>h e1)]
 show _=gP (Ez g)
 unfold Ez
 by_cases e2:300<g.2.1.length
 ·rw[decide_eq_true (show(300:Int)<((g.2.1.length:Nat):Int) by omega),cond_true,if_pos e2];rfl
 rw[decide_eq_false (show ¬(300:Int)<((g.2.1.length:Nat):Int) by omega),cond_false,if_neg e2]
 refine(se g.2.1 (λj=>((),((j:Int),()))) (kc g) (λe j=>gP (e,(2,(j:Int)))) (gP (Ey g)) (λj h k=>?_) (λk=>?_) N0 (il ok.s0)).trans ?_
 ·simp only
  rw[decide_eq_true (show(j:Int)<((g.2.1.length:Nat):Int) by omega),cond_true,aa (Qp ok (ah h))]
  simp only
  by_cases e:kc g j g.2.1[j]=0
  ·rw[decide_eq_true e,aB,cond_false,if_pos e,br h (le_max ok.s0)]
  ·rw[decide_eq_false e,aI,cond_true,if_neg e];rfl
 ·simp only
  rw[decide_eq_false (by omega),cond_false]
  unfold Ey
  by_cases e4:200<g.2.2.1.length
  ·rw[decide_eq_true (show(200:Int)<((g.2.2.1.length:Nat):Int) by omega),cond_true,if_pos e4];rfl
  rw[decide_eq_false (show ¬(200:Int)<((g.2.2.1.length:Nat):Int) by omega),cond_false,if_neg e4]
  refine(se g.2.2.1 (λj=>((),((j:Int),()))) (nL g) (λe j=>gP (e,(3,(j:Int)))) (gP (Bi g)) (λj h k=>?_) (λk=>?_) N0 (il ok.p0)).trans ?_
  ·simp only
   rw[decide_eq_true (show(j:Int)<((g.2.2.1.length:Nat):Int) by omega),cond_true,aa (Qr ok (ah h))]
   simp only
   by_cases e:nL g j g.2.2.1[j]=0
   ·rw[decide_eq_true e,aB,cond_false,if_pos e,br h (le_max ok.p0)]
   ·rw[decide_eq_false e,aI,cond_true,if_neg e];rfl
  ·simp only
   rw[decide_eq_false (by omega),cond_false]
   unfold Bi
   refine(se g.2.2.2.1 (λj=>((),((j:Int),()))) (qq g) (λe j=>gP (e,(4,(j:Int)))) (gP (Ex g)) (λj h k=>?_) (λk=>?_) N0 (il ok.l0)).trans ?_
   ·simp only
    rw[decide_eq_true (show(j:Int)<((g.2.2.2.1.length:Nat):Int) by omega),cond_true,aa (Qv ok (ah h))]
    simp only
    by_cases e:qq g j g.2.2.2.1[j]=0
    ·rw[decide_eq_true e,aB,cond_false,if_pos e,br h (le_max ok.l0)]
    ·rw[decide_eq_false e,aI,cond_true,if_neg e];rfl
   ·simp only
    rw[decide_eq_false (by omega),cond_false]
    refine aW ((),(decide (g.2.2.2.2<0\/(g.2.1.length:Int)<=g.2.2.2.2),())) (λK=>?_) ?_
    ·by_cases q1:g.2.2.2.2<0
     ·rw[decide_eq_true q1,cond_true,decide_eq_true (.inl q1)]
     ·rw[decide_eq_false q1,cond_false]
      have:decide (g.2.2.2.2<0\/(g.2.1.length:Int)<=g.2.2.2.2)=decide ((g.2.1.length:Int)<=g.2.2.2.2):=by rw[decide_eq_decide];exact⟨λh=>h.resolve_left q1,.inr⟩
      rw[this]
    ·simp only
     unfold Ex
     by_cases q:g.2.2.2.2<0\/(g.2.1.length:Int)<=g.2.2.2.2
     ·rw[decide_eq_true q,cond_true,if_pos q];rfl
     ·rw[decide_eq_false q,cond_false,if_neg q];rfl
   ·cases cP (qq g) 0 g.2.2.2.1 <;> rfl
  ·cases cP (nL g) 0 g.2.2.1 <;> rfl
 ·cases cP (kc g) 0 g.2.1 <;> rfl
end
end Go.Proofs.YthalkfdkbalpmaaGreat.Rf
namespace Go.Proofs.YthalkfdkbalpmaaGreat.Rf.Rk
open Go Go.Proofs.YthalkfdkbalpmaaGreat.Rf
noncomputable section
abbrev Lvl:=Int×List Int
abbrev Prd:=Int×(List Int×(List (Bool×Int)×(Bool×(Int×List Int))))
abbrev Grm:=List (List Int×(Int×List Int))×(List (List Int)×(List Prd×(List Lvl×Int)))
structure GOk(g:Grm):Prop where
 ls:g.2.2.2.1.length<=maxLen
 lr:∀ l∈g.2.2.2.1,l.2.length<=maxLen
 ps:g.2.2.1.length<=maxLen
 pb:∀ p∈g.2.2.1,p.2.2.1.length<=maxLen
 rs:g.1.length<=maxLen
 so:g.2.1.length<=maxLen
def CP(r:List Int×(Int×List Int)):Bool:=decide (r.2.2.length<=40)&&decide (r.1.length<=100)
def xf(l:List (List Int×(Int×List Int))):Bool:=decide (l.length<=20)&&l.all CP
theorem Qw(l:List (List Int×(Int×List Int)))(hl:l.length<=maxLen):p30 N0 (l,())=some ((xf l,()),()):=by
 unfold p30 xf
 simp only[aJ,bO,decide_eq_true_eq]
 by_cases h1:(20:Int)<(l.length:Int)
 ·have:¬l.length<=20:=by omega
  simp[h1,this]
 ·have h2:l.length<=20:=by omega
  simp only[h1,h2,if_false,decide_true,bI]
  refine bQ (λj=>((),((j:Int),()))) (λj=>some (((l.drop j).all CP,()),())) l.length (λj hj k hk=>?_) N0 0 (aH _) (by have:=j7 hl;omega)
  rcases ap j l.length with hi|hi
  ·have hk:=hk hi
   have hc:(j:Int)<(l.length:Int):=by omega
   simp only[hc,if_true,ae,aQ,ah hi,br hi hl,cQ hi,ol,hk]
   generalize l[j]=r
   unfold CP
   by_cases h3:(40:Int)<(r.2.2.length:Int)
   ·have:¬r.2.2.length<=40:=by omega
    simp[h3,this]
   ·have h4:r.2.2.length<=40:=by omega
    by_cases h5:(100:Int)<(r.1.length:Int)
    ·have:¬r.1.length<=100:=by omega
     simp[h3,h5,this]
    ·have:r.1.length<=100:=by omega
     simp[h3,h4,h5,this]
  ·have hc:¬(j:Int)<(l.length:Int):=by omega
   simp[hc,fq hi]
def uZ(p:Prd):Bool:=decide (p.2.2.1.length<=20)&&(decide (p.2.2.2.2.2.length<=20)&&decide (p.2.1.length<=100))
def few(g:Grm):Bool:=xf g.1&&(decide (g.2.1.length<=20)&&(decide (g.2.2.1.length<=40)&&(decide (g.2.2.2.1.length<=20)&&(g.2.1.all (λs=>decide (s.length<=100))&&(g.2.2.1.all uZ&&g.2.2.2.1.all (λl=>decide (l.2.length<=20)))))))
theorem Sv(g:Grm)(hg:GOk g):p8 N0 (g,())=some ((few g,()),()):=by
 unfold p8 few
 simp only[aJ,Qw g.1 hg.rs,aC,bO,decide_eq_true_eq]
 have e20:∀ a:Nat,((20:Int)<(a:Int))↔¬a<=20:=λa=>by omega
 have e40:∀ a:Nat,((40:Int)<(a:Int))↔¬a<=40:=λa=>by omega
 have Vs:∀ a:Nat,((100:Int)<(a:Int))↔¬a<=100:=λa=>by omega
 simp only[e20,e40,Vs]
 cases h1:xf g.1
 ·simp
 by_cases h2:g.2.1.length<=20
 case neg=>simp[h2]
 by_cases h3:g.2.2.1.length<=40
 case neg=>simp[h2,h3]
 by_cases h4:g.2.2.2.1.length<=20
 case neg=>simp[h2,h3,h4]
 simp only[h2,h3,h4,aB,not_true,au,if_false,decide_false,decide_true,bI]
 refine(fM (after:=?a1) g.2.1 (λs=>decide (s.length<=100)) (some ((false,()),())) (λj=>((),(j:Int),())) ?s1 ?f1 N0 ?n1).trans ?_
 case f1=>intro k;simp only[om,if_false];exact rfl
 case n1=>have:=j7 hg.so;omega
 case s1=>
  intro j hj k
  have hc:(j:Int)<(g.2.1.length:Int):=by omega
  simp only[hc,if_true,ae,aQ,ah hj,br hj hg.so,e20,decide_eq_true_eq]
  split <;> simp_all
 split
 case isFalse h=>simp[h]
 case isTrue h5=>
 simp only[h5,bI]
 refine(fM (after:=?a2) g.2.2.1 uZ (some ((false,()),())) (λj=>((),(j:Int),())) ?s2 ?f2 N0 ?n2).trans ?_
 case f2=>intro k;simp only[om,if_false];exact rfl
 case n2=>have:=j7 hg.ps;omega
 case s2=>
  intro j hj k
  have hc:(j:Int)<(g.2.2.1.length:Int):=by omega
  simp only[hc,if_true,ae,aQ,ah hj,br hj hg.ps,e20,uZ]
  generalize g.2.2.1[j]=p
  by_cases a1:p.2.2.1.length<=20 <;> by_cases a2:p.2.2.2.2.2.length<=20 <;> by_cases a3:p.2.1.length<=100 <;> simp[a1,a2,a3]
 split
 case isFalse h=>simp[h]
 case isTrue h6=>
 simp only[h6,bI]
 refine(fM (after:=some ((true,()),())) g.2.2.2.1 (λl=>decide (l.2.length<=20)) (some ((false,()),())) (λj=>((),(j:Int),())) ?s3 ?f3 N0 ?n3).trans ?_
 case f3=>intro k;simp only[om,if_false]
 case n3=>have:=j7 hg.ls;omega
 case s3=>
  intro j hj k
  have hc:(j:Int)<(g.2.2.2.1.length:Int):=by omega
  simp only[hc,if_true,ae,aQ,ah hj,br hj hg.ls,e20,decide_eq_true_eq]
  split <;> simp_all
 split
 case isFalse h=>simp[h]
 case isTrue h7=>simp[h7]
end
end Go.Proofs.YthalkfdkbalpmaaGreat.Rf.Rk
namespace Go.Proofs.YthalkfdkbalpmaaGreat.Rf
open Go
noncomputable section
def exA:GrI:=([([65],((0:Int),[97]))],([[83]],([((0:Int),([80],([(false,0)],(false,(-1,[])))))],([],(0:Int)))))
theorem Sw:p13 N0 (exA,())=some ((0,(0,(0,()))),()):=by kernel_rfl
theorem JW:tf exA:=by
 have hb:∀ l:List Int,(l.all λc=>decide (0<=c/\c<=255))=true->Bytes l:=λl h c hc=>by
  have:=cR.1 h c hc
  simpa using this
 refine⟨by decide,λr hr=>?_,by decide,λs hs=>?_,by decide,λp hp=>?_,λp hp=>?_,λp hp=>?_,by decide,λl hl=>?_⟩
 ·simp[exA]at hr
  subst hr
  exact⟨hb _ (by decide),by decide,hb _ (by decide),by decide⟩
 ·simp[exA]at hs
  subst hs
  exact⟨hb _ (by decide),by decide⟩
 ·simp[exA]at hp
  subst hp
  exact⟨hb _ (by decide),by decide⟩
 ·simp[exA]at hp;subst hp;decide
 ·simp[exA]at hp;subst hp;decide
 ·simp[exA]at hl
theorem Sx:∃ a b,p31 N0 (exA,())=some (((0,(a,b)),()),()):=by
 have h:=JU JW (λr hr=>by simp[exA]at hr;subst hr;decide)
 have h2:=JV JW
 rw[Sw]at h2
 have h3:=(Prod.mk.inj (Prod.mk.inj (cS h2)).1).1
 refine⟨(ig exA).2.1,(ig exA).2.2,h.trans ?_⟩
 rw[show ig exA=((ig exA).1,((ig exA).2.1,(ig exA).2.2))from rfl,<-h3]
set_option maxRecDepth 100000 in
theorem Sz:(p18 N0 (exA,())).map (λr=>(r.1.2.1,r.1.1.1.length))=some (0,3):=by
 obtain⟨a,b,h⟩:=Sx
 unfold p18
 simp only
 rw[aa h]
 kernel_rfl
theorem JX:p16 N0 ()=some ((true,()),()):=by
 obtain⟨r,h1,h2⟩:=nU.1 Sz
 obtain⟨⟨s,e,u⟩,v⟩:=r
 unfold p16
 show aj (p18 N0 (exA,())) _=_
 rw[aa h1]
 simp only[Prod.mk.injEq]at h2
 obtain⟨rfl,h3⟩:=h2
 have h19:p19 N0 (s,())=some ((((s.1.length:Nat):Int),()),()):=rfl
 simp only
 refine aW ((),(true,())) (λK=>?_) rfl
 simp only[decide_true,cond_true]
 rw[aa h19]
 simp only
 rw[h3]
 rfl
end
end Go.Proofs.YthalkfdkbalpmaaGreat.Rf
namespace Go.Proofs.YthalkfdkbalpmaaGreat.Rf.Rk
open Go Go.Proofs.YthalkfdkbalpmaaGreat.Rf
noncomputable section
abbrev ItS:=Int×(Int×Int)
def ltK(x y:ItS):Prop:=x.1<y.1\/x.1=y.1/\x.2.1<y.2.1
def kM(x:ItS):Prop:=0<=x.2.2/\x.2.2<18446744073709551616
theorem pv{x y z:ItS}(h1:ltK x y)(h2:ltK y z):ltK x z:=by unfold ltK at *;omega
theorem qs{x:ItS}(h:ltK x x):False:=by unfold ltK at h;omega
theorem JY(x y:ItS):ltK x y\/(x.1=y.1/\x.2.1=y.2.1)\/ltK y x:=by unfold ltK;omega
def At(l:List ItS)(p d:Int):Option Nat->Prop
 |none=>∃ x∈l,x.1=p/\x.2.1=d
 |some b=>∃ x∈l,x.1=p/\x.2.1=d/\x.2.2.toNat.testBit b=true
theorem At.there{l:List ItS}{p d:Int}{o:Option Nat}(h:At l p d o):At l p d none:=by
 cases o with
 |none=>exact h
 |some b=>obtain⟨x,h1,h2,h3,_⟩:=h;exact⟨x,h1,h2,h3⟩
theorem jm{l m:List ItS}{p d:Int}{o:Option Nat}:At (l++m) p d o↔At l p d o\/At m p d o:=by
 cases o with
 |none=>
  constructor
  ·rintro⟨x,h1,h2⟩
   rcases av.1 h1 with h|h
   ·exact .inl ⟨x,h,h2⟩
   ·exact .inr ⟨x,h,h2⟩
  ·rintro(⟨x,h1,h2⟩|⟨x,h1,h2⟩)
   ·exact⟨x,av.2 (.inl h1),h2⟩
   ·exact⟨x,av.2 (.inr h1),h2⟩
 |some b=>
  constructor
  ·rintro⟨x,h1,h2⟩
   rcases av.1 h1 with h|h
   ·exact .inl ⟨x,h,h2⟩
   ·exact .inr ⟨x,h,h2⟩
  ·rintro(⟨x,h1,h2⟩|⟨x,h1,h2⟩)
   ·exact⟨x,av.2 (.inl h1),h2⟩
   ·exact⟨x,av.2 (.inr h1),h2⟩
theorem CQ{p d:Int}{o:Option Nat}:¬At [] p d o:=by
 cases o with
 |none=>rintro⟨x,h,_⟩;cases h
 |some b=>rintro⟨x,h,_⟩;cases h
structure Can(A:Int->Int->Option Nat->Prop)(l:List ItS):Prop where
 st:l.Pairwise ltK
 bd:∀ x∈l,kM x
 at':∀ p d o,At l p d o↔A p d o
theorem px{l:List ItS}(h:l.Pairwise ltK):∀ x∈l,∀ y∈l,x.1=y.1->x.2.1=y.2.1->x=y:=by
 induction l with
 |nil=>intro x hx;cases hx
 |cons a l ih=>
  obtain⟨h1,h2⟩:=dH.1 h
  intro x hx y hy e1 e2
  rcases az.1 hx with k1|k1 <;> rcases az.1 hy with k2|k2
  ·rw[k1,k2]
  ·have:=h1 y k2;unfold ltK at this;subst k1;omega
  ·have:=h1 x k1;unfold ltK at this;subst k2;omega
  ·exact ih h2 x k1 y k2 e1 e2
theorem u0:∀ {l m:List ItS},l.Pairwise ltK->m.Pairwise ltK->(∀ x,x∈l↔x∈m)->l=m
 |[],[],_,_,_=>rfl
 |[],b::m,_,_,h=>by have:=(h b).2 bx;cases this
 |a::l,[],_,_,h=>by have:=(h a).1 bx;cases this
 |a::l,b::m,h1,h2,h=>by
  obtain⟨p1,p2⟩:=dH.1 h1
  obtain⟨q1,q2⟩:=dH.1 h2
  have e:a=b:=by
   rcases az.1 ((h a).1 bx)with e|ha
   ·exact e
   rcases az.1 ((h b).2 bx)with e|hb
   ·exact e.symm
   exact(qs (pv (p1 b hb) (q1 a ha))).elim
  subst e
  have:=u0 p2 q2 (λx=>by
   constructor
   ·intro hx
    rcases az.1 ((h x).1 (bE _ hx))with rfl|hm
    ·exact(qs (p1 x hx)).elim
    ·exact hm
   ·intro hx
    rcases az.1 ((h x).2 (bE _ hx))with rfl|hm
    ·exact(qs (q1 x hx)).elim
    ·exact hm)
  rw[this]
theorem Can.Bj{A:Int->Int->Option Nat->Prop}{l m:List ItS}(h:Can A l)(k:Can A m):l=m:=by
 have half:∀ {l m:List ItS},Can A l->Can A m->∀ x∈l,x∈m:=by
  intro l m h k x hx
  obtain⟨y,hy,e1,e2⟩:=(k.at' x.1 x.2.1 none).2 ((h.at' _ _ _).1 ⟨x,hx,rfl,rfl⟩)
  have VF:x.2.2.toNat=y.2.2.toNat:=by
   refine gI λb=>?_
   rw[cf]
   constructor
   ·intro hb
    obtain⟨z,hz,f1,f2,f3⟩:=(k.at' x.1 x.2.1 (some b)).2 ((h.at' _ _ _).1 ⟨x,hx,rfl,rfl,hb⟩)
    rw[<-px k.st z hz y hy (by omega) (by omega)];exact f3
   ·intro hb
    obtain⟨z,hz,f1,f2,f3⟩:=(h.at' x.1 x.2.1 (some b)).2 ((k.at' _ _ _).1 ⟨y,hy,e1,e2,hb⟩)
    rw[<-px h.st z hz x hx (by omega) (by omega)];exact f3
  have b1:=h.bd x hx
  have b2:=k.bd y hy
  unfold kM at b1 b2
  have:x=y:=by
   obtain⟨a,b,c⟩:=x
   obtain⟨a',b',c'⟩:=y
   simp only at *
   rw[e1,e2,show c=c' by omega]
  rw[this];exact hy
 exact u0 h.st k.st λx=>⟨half h k x,half k h x⟩
theorem Can.congr{A B:Int->Int->Option Nat->Prop}{l:List ItS}(h:Can A l)(e:∀ p d o,A p d o↔B p d o):Can B l:=⟨h.st,h.bd,λp d o=>(h.at' p d o).trans (e p d o)⟩
def orI(a b:Int):Int:=((a.toNat|||b.toNat:Nat):Int)
def U64(a:Int):Prop:=0<=a/\a<18446744073709551616
theorem mN{a b:Int}(ha:U64 a)(hb:U64 b):U64 (orI a b):=by
 unfold orI U64 at *
 have:=qX (x:=a.toNat) (y:=b.toNat) (n:=64) (by omega) (by omega)
 have e:(2:Nat) ^ 64=18446744073709551616:=by decide
 omega
theorem dP(a b:Int)(n:Nat):(orI a b).toNat.testBit n=(a.toNat.testBit n||b.toNat.testBit n):=by
 unfold orI
 rw[ae,kY]
theorem u9{a:Int}(h:0<=a):orI a 0=a:=by unfold orI;simp;omega
theorem JZ{a:Int}(h:0<=a):orI 0 a=a:=by unfold orI;simp;omega
theorem Bk{a b:Int}(ha:U64 a)(hb:U64 b)(h:∀ n,n<64->a.toNat.testBit n=b.toNat.testBit n):a=b:=by
 unfold U64 at *
 have e:(2:Nat) ^ 64=18446744073709551616:=by decide
 have:a.toNat=b.toNat:=by
  refine gI λn=>?_
  rcases ap n 64 with h1|h1
  ·exact h n h1
  ·have hp:18446744073709551616<=2 ^ n:=by rw[<-e];exact ix (by omega) h1
   rw[jD (by omega),jD (by omega)]
 omega
theorem Ov{a:Int}(ha:U64 a){n:Nat}(h:a.toNat.testBit n=true):n<64:=by
 unfold U64 at ha
 rcases ap n 64 with h1|h1
 ·exact h1
 ·have e:(2:Nat) ^ 64=18446744073709551616:=by decide
  have hp:18446744073709551616<=2 ^ n:=by rw[<-e];exact ix (by omega) h1
  rw[jD (by omega)]at h
  cases h
theorem EA{A:Int->Int->Option Nat->Prop}{X Y:List ItS}{x:ItS}(h:Can A (X++Y))(hx:kM x)(h1:∀ a∈X,ltK a x)(h2:∀ b∈Y,ltK x b):
 Can (λp d o=>A p d o\/At [x] p d o) (X++x::Y):=by
 refine⟨?_,?_,λp d o=>?_⟩
 ·have:=gJ.1 h.st
  refine gJ.2 ⟨this.1,dH.2 ⟨h2,this.2.1⟩,λa ha b hb=>?_⟩
  rcases az.1 hb with rfl|hb
  ·exact h1 a ha
  ·exact this.2.2 a ha b hb
 ·intro y hy
  rcases av.1 hy with hy|hy
  ·exact h.bd y (av.2 (.inl hy))
  ·rcases az.1 hy with rfl|hy
   ·exact hx
   ·exact h.bd y (av.2 (.inr hy))
 ·rw[<-h.at',show X++x::Y=X++([x]++Y)from rfl,jm,jm,jm]
  constructor
  ·rintro(h|h|h)
   ·exact .inl (.inl h)
   ·exact .inr h
   ·exact .inl (.inr h)
  ·rintro((h|h)|h)
   ·exact .inl h
   ·exact .inr (.inr h)
   ·exact .inr (.inl h)
theorem Qx{A:Int->Int->Option Nat->Prop}{X Y:List ItS}{x y:ItS}(h:Can A (X++y::Y))(hx:kM x)(e1:y.1=x.1)(e2:y.2.1=x.2.1):
 Can (λp d o=>A p d o\/At [x] p d o) (X++(y.1,(y.2.1,orI y.2.2 x.2.2))::Y):=by
 have hy:=h.bd y (by simp)
 have hs:=gJ.1 h.st
 have hs2:=dH.1 hs.2.1
 refine⟨?_,?_,λp d o=>?_⟩
 ·refine gJ.2 ⟨hs.1,dH.2 ⟨λb hb=>hs2.1 b hb,hs2.2⟩,λa ha b hb=>?_⟩
  rcases az.1 hb with rfl|hb
  ·exact hs.2.2 a ha y bx
  ·exact hs.2.2 a ha b (bE _ hb)
 ·intro z hz
  rcases av.1 hz with hz|hz
  ·exact h.bd z (av.2 (.inl hz))
  ·rcases az.1 hz with rfl|hz
   ·exact mN hy hx
   ·exact h.bd z (by simp[hz])
 ·have key:At [(y.1,(y.2.1,orI y.2.2 x.2.2))] p d o↔At [y] p d o\/At [x] p d o:=by
   cases o with
   |none=>simp[At,e1,e2]
   |some b=>
    simp only[At,aM,exists_eq_left,dP,aG,e1,e2]
    constructor
    ·rintro⟨h1,h2,h3|h3⟩
     ·exact .inl ⟨h1,h2,h3⟩
     ·exact .inr ⟨h1,h2,h3⟩
    ·rintro(⟨h1,h2,h3⟩|⟨h1,h2,h3⟩)
     ·exact⟨h1,h2,.inl h3⟩
     ·exact⟨h1,h2,.inr h3⟩
  rw[<-h.at',show X++(y.1,(y.2.1,orI y.2.2 x.2.2))::Y=X++([(y.1,(y.2.1,orI y.2.2 x.2.2))]++Y)from rfl,show X++y::Y=X++([y]++Y)from rfl,jm,jm,jm,jm,key]
  constructor
  ·rintro(h|(h|h)|h)
   ·exact .inl (.inl h)
   ·exact .inl (.inr (.inl h))
   ·exact .inr h
   ·exact .inl (.inr (.inr h))
  ·rintro((h|h|h)|h)
   ·exact .inl h
   ·exact .inr (.inl (.inl h))
   ·exact .inr (.inr h)
   ·exact .inr (.inl (.inr h))
theorem EB:Can (λ_ _ _=>False) []:=⟨.nil,(λx h=>by cases h),λp d o=>⟨λh=>CQ h,λh=>h.elim⟩⟩
end
end Go.Proofs.YthalkfdkbalpmaaGreat.Rf.Rk
