/- A part of a proof that a given statement (the one of this claim: the name of its theorem ends in _holds) is true of the program, with no condition ahead of it. Printed by wip/dev/pack2.py out of the texts in wip. -/
import Derived.Test.YthalkfdkbalpmaaGreatW4
set_option linter.unusedVariables false
set_option linter.unusedSimpArgs false
namespace Go.Proofs.YthalkfdkbalpmaaGreat.Rf
open Go
noncomputable section
def Bytes(s:List Int):Prop:=∀ c∈s,0<=c/\c<=255
theorem Bytes.get{s:List Int}(h:Bytes s){i:Nat}{c:Int}(hc:s[i]?=some c):0<=c/\c<=255:=h c (List.mem_of_getElem? hc)
theorem Bytes.drop{s:List Int}(h:Bytes s)(i:Nat):Bytes (s.drop i):=λc hc=>h c (List.mem_of_mem_drop hc)
theorem w5{c:Int}(h:0<=c/\c<=255):vn N0 (c,())=some (((kG c).getD (-1),()),()):=by
 unfold vn kG
 simp only[aY]
 by_cases h1:(48:Int)<=c
 ·by_cases h2:c<=(57:Int)
  ·have w1:IntKind.wrap .u8 (c-48)=c-48:=eT ⟨by simp[kLo];omega,by simp[kHi];omega⟩
   have w2:IntKind.wrap .i64 (c-48)=c-48:=bc (by omega) (by omega)
   simp[h1,h2,w1,w2]
  ·by_cases h3:(97:Int)<=c
   ·by_cases h4:c<=(102:Int)
    ·have w1:IntKind.wrap .u8 (c-97)=c-97:=eT ⟨by simp[kLo];omega,by simp[kHi];omega⟩
     have w2:IntKind.wrap .i64 (c-97)=c-97:=bc (by omega) (by omega)
     have w3:IntKind.wrap .i64 (c-97+10)=c-97+10:=bc (by omega) (by omega)
     have e:c-97+10=c-87:=by omega
     rw[e]at w3
     simp[h1,h2,h3,h4,w1,w2,w3,e]
    ·simp[h1,h2,h3,h4]
   ·simp[h1,h2,h3]
 ·have h3:¬(97:Int)<=c:=by omega
  simp[h1,h3]
theorem jL{c v:Int}(h:kG c=some v):0<=v/\v<=15:=by
 unfold kG at h
 split at h
 ·injection h with h;omega
 ·split at h
  ·injection h with h;omega
  ·cases h
theorem Nk:∀ a b:Fin 16,IntKind.wrap .u8 (bF .or .i64 (IntKind.wrap .i64 (((a.val:Nat):Int)*2 ^ (Nat.min (Int.toNat (4:Int)) (IntKind.bits .i64)))) ((b.val:Nat):Int))=16*((a.val:Nat):Int)+((b.val:Nat):Int):=by decide
theorem B1{a b:Int}(ha:0<=a/\a<=15)(hb:0<=b/\b<=15):IntKind.wrap .u8 (bF .or .i64 (IntKind.wrap .i64 (a*2 ^ (Nat.min (Int.toNat (4:Int)) (IntKind.bits .i64)))) b)=16*a+b:=by
 have:=Nk ⟨a.toNat,by omega⟩ ⟨b.toNat,by omega⟩
 simp only[Int.toNat_of_nonneg ha.1,Int.toNat_of_nonneg hb.1]at this
 exact this
def rdR(o:Option (Int×Nat)):Int×(Int×(Bool×Unit)):=match o with
 |some (c,n)=>(c,((n:Int),(true,())))
 |none=>(0,(0,(false,())))
theorem EI{t:List Int}(hb:Bytes t):D6 N0 (t,())=some (rdR (rdS t),()):=by
 unfold D6
 simp only[aY]
 cases t with
 |nil=>rfl
 |cons c r=>
  have e0:decide ((c::r:List Int)=[])=false:=rfl
  have n0:(0:Int)<=0:=by omega
  have g0:(c::r)[((0:Int)).toNat]?=some c:=rfl
  rw[e0,cond_false,if_pos n0,g0]
  simp only[if_pos n0]
  by_cases hc:c=92
  ·subst hc
   simp only[decide_true,Bool.not_true,cond_false]
   cases r with
   |nil=>rfl
   |cons d r2=>
    have hd:=hb d (by simp)
    have el:decide ((((92::d::r2:List Int).length:Nat):Int)<2)=false:=by
     rw[decide_eq_false_iff_not];simp;omega
    have g1:(92::d::r2:List Int)[((1:Int)).toNat]?=some d:=rfl
    have n1:(0:Int)<=1:=by omega
    rw[el,cond_false,if_pos n1,g1]
    simp only[rdS,ne_eq,not_true_eq_false,if_false]
    by_cases h1:d=110
    ·subst h1;rfl
    by_cases h2:d=116
    ·subst h2;rfl
    by_cases h3:d=114
    ·subst h3;rfl
    simp only[h1,h2,h3,decide_false,cond_false,if_false]
    by_cases h4:d=120
    ·subst h4
     simp only[decide_true,cond_true,if_true]
     cases r2 with
     |nil=>rfl
     |cons x r3=>
      cases r3 with
      |nil=>rfl
      |cons y r4=>
       have hx:=hb x (by simp)
       have hy:=hb y (by simp)
       have l4:decide ((4:Int)<=(((92::120::x::y::r4:List Int).length:Nat):Int))=true:=by
        rw[decide_eq_true_eq];simp;omega
       have n2:(0:Int)<=2:=by omega
       have n3:(0:Int)<=3:=by omega
       have g2:(92::120::x::y::r4:List Int)[((2:Int)).toNat]?=some x:=rfl
       have g3:(92::120::x::y::r4:List Int)[((3:Int)).toNat]?=some y:=rfl
       have n4:¬((4:Int)<0):=by omega
       rw[l4,cond_true,if_pos n2,g2]
       simp only[if_pos n2,if_pos n3,g3,w5 hx,w5 hy,aX,if_neg n4]
       cases hvx:kG x with
       |none=>
        have:decide ((0:Int)<=(none:Option Int).getD (-1))=false:=rfl
        rw[this]
        rfl
       |some a=>
        have ha:=jL hvx
        have:decide ((0:Int)<=(some a).getD (-1))=true:=by simpa using ha.1
        rw[this]
        simp only[cond_true]
        cases hvy:kG y with
        |none=>
         have:decide ((0:Int)<=(none:Option Int).getD (-1))=false:=rfl
         rw[this]
         rfl
        |some b=>
         have hb2:=jL hvy
         have:decide ((0:Int)<=(some b).getD (-1))=true:=by simpa using hb2.1
         rw[this]
         simp only[cond_true,Option.getD_some,B1 ha hb2]
         rfl
    ·simp only[h4,decide_false,cond_false,if_false]
     by_cases h5:d=0
     ·subst h5;rfl
     simp only[h5,decide_false,cond_false]
     have hif:(iD d=true\/d<32\/126<d)↔((iD d||(decide (d<32)||decide (126<d)))=true):=by simp
     simp only[hif]
     unfold iD
     generalize decide ((48:Int)<=d)=b1
     generalize decide (d<=(57:Int))=b2
     generalize decide ((97:Int)<=d)=b3
     generalize decide (d<=(122:Int))=b4
     generalize decide ((65:Int)<=d)=b5
     generalize decide (d<=(90:Int))=b6
     generalize decide (d<(32:Int))=b7
     generalize decide ((126:Int)<d)=b8
     revert b1 b2 b3 b4 b5 b6 b7 b8
     intro b1 b2 b3 b4 b5 b6 b7 b8
     cases b1 <;> cases b2 <;> cases b3 <;> cases b4 <;> cases b5 <;> cases b6 <;> cases b7 <;> cases b8 <;> rfl
  ·have hc2:decide (c=92)=false:=decide_eq_false hc
   rw[hc2]
   simp only[Bool.not_false,cond_true,rdS,ne_eq,hc,not_false_eq_true,if_true]
   rfl
theorem fW{t:List Int}(hb:Bytes t){c:Int}{n:Nat}(h:rdS t=some (c,n)):(0<=c/\c<=255)/\0<n/\n<=t.length:=by
 unfold rdS at h
 cases t with
 |nil=>cases h
 |cons a r=>
  have ha:=hb a (by simp)
  simp only at h
  split at h
  ·injection h with h;injection h with h1 h2;subst h1;subst h2;simp;omega
  ·cases r with
   |nil=>cases h
   |cons d r2=>
    have hd:=hb d (by simp)
    simp only at h
    split at h
    ·injection h with h;injection h with h1 h2;subst h1;subst h2;simp
    split at h
    ·injection h with h;injection h with h1 h2;subst h1;subst h2;simp
    split at h
    ·injection h with h;injection h with h1 h2;subst h1;subst h2;simp
    split at h
    ·split at h
     ·rename_i x y r4
      split at h
      ·rename_i u v hu hv
       have h1:=jL hu
       have h2:=jL hv
       injection h with h;injection h with h3 h4;subst h3;subst h4;simp;omega
      ·cases h
     ·cases h
    ·split at h
     ·cases h
     ·injection h with h;injection h with h1 h2;subst h1;subst h2;simp;omega
def kst(s:List Int)(i:Nat)(d:Int):List Int×(Int×Int):=(s,((i:Int),d))
def jn(s:List Int)(i:Nat)(l:List Int):Bool:=decide (s.length<=i)||l.any λb=>decide (ch s i=b)
theorem eu{s:List Int}{i:Nat}(h:i<s.length):s[i]?=some (ch s i):=by unfold ch;rw[List.getElem?_eq_getElem h];rfl
theorem kJ(s:List Int)(hs:s.length<=maxLen)(i:Nat)(d:Int)(l:List Int)(hl:l.length<=maxLen):sY N0 (kst s i d,(l,()))=some ((jn s i l,()),(kst s i d,())):=by
 unfold sY kst jn
 simp only
 rcases Nat.lt_or_ge i s.length with hi|hi
 ·have e1:decide (((s.length:Nat):Int)<=(i:Int))=false:=decide_eq_false (by omega)
  have e2:decide (s.length<=i)=false:=decide_eq_false (by omega)
  rw[e1,cond_false,e2,Bool.false_or]
  refine aJ (λm x r=>∃ j:Nat,x=(((s,((i:Int),d)),()),((j:Int),()))/\m+j=l.length/\r=some (((l.drop j).any (λb=>decide (ch s i=b)),()),((s,((i:Int),d)),()))) ?_ N0 l.length _ _ (by have:=gO hl;omega) ⟨0,rfl,rfl,by rw[List.drop_zero]⟩
  rintro m x r ⟨j,rfl,hm,rfl⟩ k hk
  simp only
  rcases Nat.lt_or_ge j l.length with hj|hj
  ·have n0:(0:Int)<=(i:Int):=by omega
   have n1:(0:Int)<=(j:Int):=by omega
   rw[decide_eq_true (show(j:Int)<((l.length:Nat):Int) by omega),cond_true,if_pos n0,Int.toNat_natCast,eu hi]
   simp only[if_pos n1,Int.toNat_natCast,List.getElem?_eq_getElem hj,aE hj hl]
   rw[List.drop_eq_getElem_cons hj,List.any_cons]
   cases hd:decide (ch s i=l[j])
   ·rw[cond_false,Bool.false_or]
    exact hk (m-1) _ _ (by omega) ⟨j+1,rfl,by omega,rfl⟩
   ·rw[cond_true,Bool.true_or]
  ·rw[decide_eq_false (show ¬(j:Int)<((l.length:Nat):Int) by omega),cond_false,List.drop_of_length_le hj]
   rfl
 ·have e1:decide (((s.length:Nat):Int)<=(i:Int))=true:=decide_eq_true (by omega)
  have e2:decide (s.length<=i)=true:=decide_eq_true hi
  rw[e1,e2]
  rfl
def cH(s:List Int)(i:Nat)(c:Int):Bool:=decide (i<s.length)&&decide (ch s i=c)
theorem jM(s:List Int)(hs:s.length<=maxLen)(i:Nat)(d:Int)(c:Int):jS N0 (kst s i d,(c,()))=some ((cH s i c,()),(kst s (if cH s i c=true then i+1 else i) d,())):=by
 unfold jS kst cH
 simp only[aY]
 rcases Nat.lt_or_ge i s.length with hi|hi
 ·have n0:(0:Int)<=(i:Int):=by omega
  rw[decide_eq_true (show(i:Int)<((s.length:Nat):Int) by omega),cond_true,if_pos n0,Int.toNat_natCast,eu hi,decide_eq_true hi]
  simp only[Bool.true_and,decide_eq_true_eq]
  by_cases h:ch s i=c
  ·simp only[h,decide_true,cond_true,if_true,aE hi hs]
  ·simp only[h,decide_false,cond_false,if_false]
 ·rw[decide_eq_false (show ¬(i:Int)<((s.length:Nat):Int) by omega),cond_false,decide_eq_false (by omega)]
  simp
def rdK(s:List Int)(i:Nat)(d:Int):(Int×(Bool×Unit))×((List Int×(Int×Int))×Unit):=match rdS (s.drop i)with
 |some (c,n)=>((c,(true,())),(kst s (i+n) d,()))
 |none=>((0,(false,())),(kst s i d,()))
theorem qM{s:List Int}(hb:Bytes s)(hs:s.length<=maxLen){i:Nat}(hi:i<=s.length)(d:Int):yY N0 (kst s i d,())=some (rdK s i d):=by
 unfold yY kst
 simp only
 have hc:(0:Int)<=(i:Int)/\(i:Int)<=((s.length:Nat):Int)/\((s.length:Nat):Int)<=((s.length:Nat):Int):=⟨by omega,by omega,by omega⟩
 have n5:br s (i:Int) ((s.length:Nat):Int)=s.drop i:=by
  unfold br
  simp only[Int.toNat_natCast]
  exact List.take_of_length_le (by simp)
 rw[if_pos hc,n5,aa (EI (hb.drop i))]
 unfold rdK rdR kst
 cases hr:rdS (s.drop i)with
 |none=>
  simp only[Int.add_zero]
  rw[aL (by unfold maxLen at hs;omega)]
 |some p=>
  obtain⟨c,n⟩:=p
  obtain⟨_,h1,h2⟩:=fW (hb.drop i) hr
  rw[List.length_drop]at h2
  simp only
  have:((i:Int)+(n:Int))=((i+n:Nat):Int):=by omega
  rw[this,aL (by unfold maxLen at hs;omega)]
end
noncomputable section
theorem bL{A R:Type}{body:A->(A->Option R)->Option R}(I:Nat->A->Prop)(Q:Option R->Prop)
 (step:∀ m x,I m x->∀ k,(∀ m' y,m' < m->I m' y->Q (k y))->Q (body x k)):∀ n m x,m<n->I m x->Q (aq body n x):=by
 intro n
 induction n with
 |zero=>intro m x h;omega
 |succ n ih=>
  intro m x h hi
  rw[bP]
  exact step m x hi _ (λm' y hm hi'=>ih m' y (by omega) hi')
def OkP(s:List Int)(d:Int)(B:Nat)(o:Option (Rx×Nat))(z:Option ((List Pc×(Bool×Unit))×((List Int×(Int×Int))×Unit))):Prop:=
 match o with
 |some (t,j)=>z=some ((t.post,(true,())),(kst s j d,()))
 |none=>∃ r k,z=some ((r,(false,())),(k,()))/\r.length<=B
def iF(s:List Int)(nt:Bool)(o:Option ((Nat->Bool)×Nat)):Option (Rx×Nat):=
 match o with
 |none=>none
 |some (l,j)=>if s.length<=j\/bZ (if nt=true then λx=>!l x else l)=true then none else some (.set (ofB (if nt=true then λx=>!l x else l)),j+1)
theorem n6(s:List Int)(i:Nat):brS s i=iF s (cH s i 94) (brL s s.length.succ (if cH s i 94=true then i+1 else i) (λ_=>false)):=by
 unfold brS iF cH
 rfl
theorem Is(s:List Int)(i:Nat)(a:Int)(l:List Int):jn s i (a::l)=(jn s i l||decide (ch s i=a)):=by
 unfold jn
 rw[List.any_cons]
 cases decide (s.length<=i) <;> cases decide (ch s i=a) <;> simp
theorem EJ{s:List Int}(hb:Bytes s)(hs:s.length<=maxLen){i:Nat}(hi:i<=s.length)(d:Int):OkP s d 1 (brS s i) (D9 N0 (kst s i d,())):=by
 rw[n6]
 unfold D9
 simp only[aY]
 rw[aa (jM s hs i d 94)]
 simp only
 generalize hnt:cH s i 94=nt
 have hi1:(if nt=true then i+1 else i)<=s.length:=by
  split
  ·rename_i h
   rw[<-hnt]at h
   unfold cH at h
   simp at h
   omega
  ·exact hi
 generalize (if nt=true then i+1 else i)=i1 at hi1
 have hz:([0,0,0,0]:List Int)=ofB (λ_=>false):=by
  rw[show([0,0,0,0]:List Int)=zS by rfl]
  exact(et.2 (by unfold bZ;rw[List.all_eq_true];intro x _;rfl)).symm
 generalize aZ:brL s s.length.succ i1 (λ_=>false)=res
 refine bL (λm x=>∃ (i:Nat) (f:Nat->Bool) (aP:Nat),x=((kst s i d,(ofB f,())),())/\i<=s.length/\s.length-i<aP/\m=s.length-i/\brL s aP i f=res) (OkP s d 1 (iF s nt res)) ?_ N0 (s.length-i1) _ (by have:=gO hs;omega) ⟨i1,_,s.length.succ,by rw[<-hz],hi1,by omega,rfl,aZ⟩
 rintro m x ⟨i,f,aP,rfl,hi,hf,hm,hr⟩ k hk
 obtain⟨aP,rfl⟩:∃ q,aP=q+1:=⟨aP-1,by omega⟩
 simp only[brL]at hr
 rw[aa (kJ s hs i d [93] (by simp[maxLen]))]
 simp only
 by_cases ir:s.length<=i\/ch s i=93
 ·-- the end
  rw[if_pos ir]at hr
  have hc:jn s i [93]=true:=by
   unfold jn
   rcases ir with h|h
   ·simp[h]
   ·simp[h]
  rw[hc]
  simp only[Bool.not_true,cond_false]
  subst hr
  have a9:∀ g:Nat->Bool,OkP s d 1 (if s.length<=i\/bZ g=true then none else some (.set (ofB g),i+1)) (af (jS N0 (kst s i d,(93,()))) λv21=>bif v21.1.1 then af (mC N0 (ofB g,())) λv22=>some (([((1:Int),ofB g)],(!v22.1.1,())),(v21.2.1,()))else some (([((1:Int),ofB g)],(false,())),(v21.2.1,()))):=by
   intro g
   rw[aa (jM s hs i d 93)]
   simp only
   rcases Nat.lt_or_ge i s.length with h|h
   ·have h93:ch s i=93:=ir.resolve_left (by omega)
    have he:cH s i 93=true:=by unfold cH;simp[h,h93]
    rw[he]
    simp only[cond_true,if_true,wY,aX]
    cases hem:bZ g
    ·have:¬(s.length<=i\/(false=true)):=by simp;omega
     rw[if_neg this]
     rfl
    ·rw[if_pos (.inr rfl)]
     exact⟨_,_,rfl,by simp⟩
   ·have he:cH s i 93=false:=by unfold cH;simp;omega
    rw[he,if_pos (.inl h)]
    exact⟨_,_,rfl,by simp⟩
  unfold iF
  cases nt
  ·exact a9 f
  ·simp only[cond_true,EH,aX,if_true]
   exact a9 λx=>!f x
 ·rw[if_neg ir]at hr
  have hlt:i<s.length:=by omega
  have hc:jn s i [93]=false:=by
   unfold jn
   have h1:¬s.length<=i:=by omega
   have h2:¬ch s i=93:=λh=>ir (.inr h)
   simp[h1,h2]
  rw[hc]
  simp only[Bool.not_false,cond_true]
  rw[aa (kJ s hs i d [94,45,47,34] (by simp[maxLen]))]
  simp only
  have hc2:jn s i [94,45,47,34]=decide (ch s i∈([94,45,47,34]:List Int)):=by
   unfold jn
   have h1:¬s.length<=i:=by omega
   rw[decide_eq_false h1,Bool.false_or,Bool.eq_iff_iff,decide_eq_true_eq,List.any_eq_true]
   simp
  rw[hc2]
  by_cases hin:ch s i∈([94,45,47,34]:List Int)
  ·rw[if_pos hin]at hr
   rw[decide_eq_true hin,cond_true]
   subst hr
   exact⟨_,_,rfl,by simp⟩
  rw[if_neg hin]at hr
  rw[decide_eq_false hin,cond_false,aa (qM hb hs hi d)]
  unfold rdK
  cases hrd:rdS (s.drop i)with
  |none=>
   rw[hrd]at hr
   simp only at hr
   subst hr
   exact⟨_,_,rfl,by simp⟩
  |some p=>
   obtain⟨a,n⟩:=p
   rw[hrd]at hr
   simp only at hr
   simp only[Bool.not_true,cond_false]
   obtain⟨ha,hn1,hn2⟩:=fW (hb.drop i) hrd
   rw[List.length_drop]at hn2
   rw[aa (jM s hs (i+n) d 45)]
   simp only
   -- C5 goes on with a range
   have go:∀ (j:Nat) (b:Int),j<=s.length->i<j->(0<=b/\b<=255)->brL s aP j (λx=>f x||nY a b x)=res->
    OkP s d 1 (iF s nt res) (af (Bs N0 (a,(b,()))) λv11=>af (Bt N0 (ofB f,(v11.1.1,()))) λv12=>k ((kst s j d,(v12.1.1,())),())):=by
    intro j b hj hij hbb aZ
    rw[aa (ED ha hbb)]
    simp only
    rw[aa (EE f (nY a b))]
    exact hk (s.length-j) _ (by omega) ⟨j,_,aP,rfl,hj,by omega,rfl,aZ⟩
   by_cases hd:i+n<s.length/\ch s (i+n)=45
   ·rw[if_pos hd]at hr
    have he:cH s (i+n) 45=true:=by unfold cH;simp[hd.1,hd.2]
    rw[he]
    simp only[cond_true,if_true]
    rw[aa (kJ s hs (i+n+1) d [93,94,45,47,34] (by simp[maxLen]))]
    simp only
    have hc3:jn s (i+n+1) [93,94,45,47,34]=decide (s.length<=i+n+1\/ch s (i+n+1)∈([93,94,45,47,34]:List Int)):=by
     unfold jn
     rw[Bool.eq_iff_iff,Bool.or_eq_true,decide_eq_true_eq,decide_eq_true_eq,List.any_eq_true]
     simp
    rw[hc3]
    by_cases h4:s.length<=i+n+1\/ch s (i+n+1)∈([93,94,45,47,34]:List Int)
    ·rw[if_pos h4]at hr
     rw[decide_eq_true h4,cond_true]
     subst hr
     exact⟨_,_,rfl,by simp⟩
    rw[if_neg h4]at hr
    rw[decide_eq_false h4,cond_false,aa (qM hb hs (show i+n+1<=s.length by omega) d)]
    unfold rdK
    cases tE:rdS (s.drop (i+n+1))with
    |none=>
     rw[tE]at hr
     simp only at hr
     subst hr
     exact⟨_,_,rfl,by simp⟩
    |some p2=>
     obtain⟨b,n2⟩:=p2
     rw[tE]at hr
     simp only at hr
     simp only[Bool.not_true,cond_false]
     obtain⟨hbb,hn3,hn4⟩:=fW (hb.drop _) tE
     rw[List.length_drop]at hn4
     by_cases hba:b<a
     ·rw[if_pos hba]at hr
      rw[decide_eq_true hba,cond_true]
      subst hr
      exact⟨_,_,rfl,by simp⟩
     ·rw[if_neg hba]at hr
      rw[decide_eq_false hba,cond_false]
      exact go (i+n+1+n2) b (by omega) (by omega) hbb hr
   ·rw[if_neg hd]at hr
    have he:cH s (i+n) 45=false:=by
     unfold cH
     rw[Bool.and_eq_false_iff,decide_eq_false_iff_not,decide_eq_false_iff_not]
     by_cases h:i+n<s.length
     ·exact .inr λh2=>hd ⟨h,h2⟩
     ·exact .inl h
    rw[he]
    simp only[cond_false,Bool.false_eq_true,if_false]
    exact go (i+n) a (by omega) (by omega) ha hr
end
noncomputable section
def Res(s:List Int)(i:Nat)(t:Rx)(j:Nat):Prop:=i<j/\j<=s.length/\t.len+1<=2*(j-i)/\t.ok
def gb(s:List Int)(i:Nat)(o:Option (Rx×Nat)):Prop:=∀ t j,o=some (t,j)->Res s i t j
theorem vB{l:Nat->Bool}(h:bZ l=false):(Rx.set (ofB l)).ok:=⟨rfl,(λe=>by rw[et.1 e]at h;cases h),HP l⟩
theorem vC:bZ (λ_=>true)=false:=by
 unfold bZ
 rw[List.all_eq_false]
 exact⟨0,by simp,by simp⟩
theorem zq{c:Int}(h:0<=c/\c<=255):bZ (lI c)=false:=by
 unfold bZ
 rw[List.all_eq_false]
 refine⟨c.toNat,List.mem_range.2 (by omega),?_⟩
 unfold lI
 simp
 omega
theorem w6{s:List Int}(hb:Bytes s):∀ (m i:Nat) (l:Nat->Bool) (r:Nat->Bool) (j:Nat),brL s m i l=some (r,j)->i<=j:=by
 intro m
 induction m with
 |zero=>intro i l r j h;cases h
 |succ m ih=>
  intro i l r j h
  simp only[brL]at h
  split at h
  ·injection h with h;injection h with h1 h2;omega
  split at h
  ·cases h
  split at h
  ·cases h
  rename_i a n hrd
  have hn:=(fW (hb.drop i) hrd).2.1
  split at h
  ·split at h
   ·cases h
   split at h
   ·cases h
   rename_i b n2 tE
   split at h
   ·cases h
   have:=ih _ _ _ _ h
   omega
  ·have:=ih _ _ _ _ h
   omega
theorem qN{s:List Int}(hb:Bytes s){i0 i:Nat}(hi:i0<i):gb s i0 (brS s i):=by
 intro t j h
 rw[n6]at h
 unfold iF at h
 split at h
 ·cases h
 rename_i l k hl
 generalize (if cH s i 94=true then λx=>!l x else l)=l' at h
 split at h
 ·cases h
 rename_i hn
 injection h with h
 injection h with h1 h2
 subst h1;subst h2
 have h1:=w6 hb _ _ _ _ _ hl
 have h2:i<=k:=by
  refine Nat.le_trans ?_ h1
  split <;> omega
 have hne:¬s.length<=k:=λe=>hn (.inl e)
 have hem:=λe=>hn (.inr e)
 refine⟨by omega,by omega,by simp only[Rx.len];omega,vB ?_⟩
 simpa using hem
theorem n7{s:List Int}(hb:Bytes s){inner:Nat->Nat->Option (Rx×Nat)}{i d:Nat}(hin:gb s (i+1) (inner (i+1) (d+1))):gb s i (gR inner s i d):=by
 intro t j h
 unfold gR at h
 split at h
 ·cases h
 rename_i ir
 have hlt:i<s.length:=by
  rcases Nat.lt_or_ge i s.length with h|h
  ·exact h
  ·exact absurd (.inl h) ir
 split at h
 ·injection h with h;injection h with h1 h2;subst h1;subst h2
  exact⟨by omega,by omega,by simp only[Rx.len];omega,vB vC⟩
 split at h
 ·injection h with h;injection h with h1 h2;subst h1;subst h2
  exact⟨by omega,by omega,by simp only[Rx.len];omega,trivial⟩
 split at h
 ·exact qN hb (by omega) t j h
 split at h
 ·split at h
  ·cases h
  split at h
  ·cases h
  rename_i t2 j2 hi2
  obtain⟨q1,q2,q3,q4⟩:=hin _ _ hi2
  split at h
  ·rename_i hj
   injection h with h;injection h with h1 h2;subst h1;subst h2
   exact⟨by omega,by omega,by omega,q4⟩
  ·cases h
 split at h
 ·cases h
 rename_i c n hrd
 obtain⟨h1,h2,h3⟩:=fW (hb.drop i) hrd
 rw[List.length_drop]at h3
 injection h with h;injection h with h4 h5;subst h4;subst h5
 exact⟨by omega,by omega,by simp only[Rx.len];omega,vB (zq h1)⟩
theorem lK(c:Int):eJ c=4\/eJ c=5\/eJ c=6:=by unfold eJ;split;exact .inl rfl;split;exact .inr (.inl rfl);exact .inr (.inr rfl)
theorem B2{s:List Int}:∀ (m i0 i:Nat) (t0 t:Rx) (j:Nat),Res s i0 t0 i->kc s m i t0=some (t,j)->Res s i0 t j:=by
 intro m
 induction m with
 |zero=>intro i0 i t0 t j _ h;cases h
 |succ m ih=>
  intro i0 i t0 t j hr h
  simp only[kc]at h
  split at h
  ·rename_i hc
   refine ih i0 (i+1) _ t j ?_ h
   obtain⟨q1,q2,q3,q4⟩:=hr
   exact⟨by omega,by omega,by simp only[Rx.len];omega,lK _,q4⟩
  ·injection h with h;injection h with h1 h2;subst h1;subst h2;exact hr
theorem kK{s:List Int}(hb:Bytes s){inner:Nat->Nat->Option (Rx×Nat)}{i d:Nat}(hin:gb s (i+1) (inner (i+1) (d+1))):gb s i (fV inner s i d):=by
 intro t j h
 unfold fV at h
 split at h
 ·cases h
 rename_i t0 i0 h0
 exact B2 _ i i0 t0 t j (n7 hb hin _ _ h0) h
theorem B3{s:List Int}(hb:Bytes s){inner:Nat->Nat->Option (Rx×Nat)}{d:Nat}(n:Nat)(hin:∀ i d,s.length-i<n->gb s i (inner i d)):∀ (m i0 i:Nat) (t0 t:Rx) (j:Nat),Res s i0 t0 i->s.length-i0<=n->kH inner s d m i t0=some (t,j)->Res s i0 t j:=by
 intro m
 induction m with
 |zero=>intro i0 i t0 t j _ _ h;cases h
 |succ m ih=>
  intro i0 i t0 t j hr hn h
  simp only[kH]at h
  split at h
  ·rename_i hc
   split at h
   ·cases h
   rename_i t2 j2 h2
   obtain⟨q1,q2,q3,q4⟩:=hr
   obtain⟨p1,p2,p3,p4⟩:=kK hb (hin (i+1) (d+1) (by omega)) _ _ h2
   refine ih i0 j2 _ t j ?_ hn h
   exact⟨by omega,p2,by simp only[Rx.len];omega,q4,p4⟩
  ·injection h with h;injection h with h1 h2;subst h1;subst h2;exact hr
theorem kL{s:List Int}(hb:Bytes s){inner:Nat->Nat->Option (Rx×Nat)}{i d:Nat}(n:Nat)(hin:∀ i d,s.length-i<n->gb s i (inner i d))(hn:s.length-i<=n):gb s i (ga inner s i d):=by
 intro t j h
 unfold ga at h
 split at h
 ·cases h
 rename_i t0 i0 h0
 rcases Nat.lt_or_ge i s.length with hlt|hge
 ·exact B3 hb n hin _ i i0 t0 t j (kK hb (hin (i+1) (d+1) (by omega)) _ _ h0) hn h
 ·exfalso
  unfold fV gR at h0
  rw[if_pos (.inl hge)]at h0
  cases h0
theorem B4{s:List Int}(hb:Bytes s){inner:Nat->Nat->Option (Rx×Nat)}{d:Nat}(n:Nat)(hin:∀ i d,s.length-i<n->gb s i (inner i d)):∀ (m i0 i:Nat) (t0 t:Rx) (j:Nat),Res s i0 t0 i->s.length-i0<=n->kI inner s d m i t0=some (t,j)->Res s i0 t j:=by
 intro m
 induction m with
 |zero=>intro i0 i t0 t j _ _ h;cases h
 |succ m ih=>
  intro i0 i t0 t j hr hn h
  simp only[kI]at h
  split at h
  ·rename_i hc
   split at h
   ·cases h
   rename_i t2 j2 h2
   obtain⟨q1,q2,q3,q4⟩:=hr
   obtain⟨p1,p2,p3,p4⟩:=kL hb n hin (by omega) _ _ h2
   refine ih i0 j2 _ t j ?_ hn h
   exact⟨by omega,p2,by simp only[Rx.len];omega,q4,p4⟩
  ·injection h with h;injection h with h1 h2;subst h1;subst h2;exact hr
theorem fe{s:List Int}(hb:Bytes s):∀ (n i d:Nat),s.length-i<n->gb s i (fA s n i d):=by
 intro n
 induction n with
 |zero=>intro i d h;omega
 |succ n ih=>
  intro i d hn t j h
  simp only[fA,tC]at h
  split at h
  ·cases h
  rename_i t0 i0 h0
  exact B4 hb n ih _ i i0 t0 t j (kL hb n ih (by omega) _ _ h0) (by omega) h
end
noncomputable section
theorem qO(k:Int):sZ N0 (k,())=some ((if k=0\/k=1 then 0 else if k=4\/k=5\/k=6 then 1 else if k=2\/k=3 then 2 else -1,()),()):=by
 unfold sZ
 simp only[aY]
 by_cases h0:k=0
 ·subst h0;rfl
 by_cases h1:k=1
 ·subst h1;rfl
 by_cases h2:k=2
 ·subst h2;rfl
 by_cases h3:k=3
 ·subst h3;rfl
 by_cases h4:k=4
 ·subst h4;rfl
 by_cases h5:k=5
 ·subst h5;rfl
 by_cases h6:k=6
 ·subst h6;rfl
 simp[h0,h1,h2,h3,h4,h5,h6]
theorem tF{a b:Nat}(ha:a<=1000000)(hb:b<=1000000):((a+b)*40<=140737488355328)/\(a+b<=9223372036854775807):=by omega
theorem B5{k:Int}(hk:k=4\/k=5\/k=6){l:List Pc}(hl:l.length<=1000000):nU N0 (k,([l],()))=some ((l++[(k,zS)],()),()):=by
 have ht:(if k=0\/k=1 then(0:Int)else if k=4\/k=5\/k=6 then 1 else if k=2\/k=3 then 2 else -1)=1:=by
  have:¬(k=0\/k=1):=by omega
  rw[if_neg this,if_pos hk]
 unfold nU
 simp only[aY,qO,ht,aX]
 have e1:(!(decide ((1:Int)=(([l]:List (List Pc)).length:Nat))))=false:=rfl
 have e2:decide (((([l]:List (List Pc)).length:Nat):Int)=0)=false:=rfl
 rw[e1,cond_false,e2,cond_false]
 refine aJ (λm x r=>((m=1/\x=((),(([]:List Pc),((0:Int),()))))\/(m=0/\x=((),(l,((1:Int),())))))/\r=some ((l++[(k,zS)],()),())) ?_ N0 1 _ _ (by unfold N0;omega) ⟨.inl ⟨rfl,rfl⟩,rfl⟩
 rintro m x r ⟨hx,rfl⟩ kk hkk
 rcases hx with⟨rfl,rfl⟩|⟨rfl,rfl⟩
 ·have l1:decide ((0:Int)<(([l]:List (List Pc)).length:Nat))=true:=rfl
  have g0:([l]:List (List Pc))[((0:Int)).toNat]?=some l:=rfl
  have n0:(0:Int)<=0:=by omega
  obtain⟨f1,f2⟩:=tF (a:=([]:List Pc).length) (b:=l.length) (by simp) hl
  have w3:IntKind.wrap .i64 ((0:Int)+1)=1:=bc (by omega) (by omega)
  rw[l1,cond_true,if_pos n0,g0]
  simp only[if_pos f1,if_pos f2,w3,List.nil_append]
  exact hkk 0 _ _ (by omega) ⟨.inr ⟨rfl,rfl⟩,rfl⟩
 ·have l1:decide ((1:Int)<(([l]:List (List Pc)).length:Nat))=false:=rfl
  obtain⟨f1,f2⟩:=tF (a:=l.length) (b:=([(k,[0,0,0,0])]:List Pc).length) hl (by simp)
  rw[l1,cond_false,if_pos f1,if_pos f2]
  rfl
theorem kM{k:Int}(hk:k=2\/k=3){l l2:List Pc}(hl:l.length<=100000)(hl2:l2.length<=100000):nU N0 (k,([l,l2],()))=some ((l++l2++[(k,zS)],()),()):=by
 have ht:(if k=0\/k=1 then(0:Int)else if k=4\/k=5\/k=6 then 1 else if k=2\/k=3 then 2 else -1)=2:=by
  have h1:¬(k=0\/k=1):=by omega
  have h2:¬(k=4\/k=5\/k=6):=by omega
  rw[if_neg h1,if_neg h2,if_pos hk]
 unfold nU
 simp only[aY,qO,ht,aX]
 have e1:(!(decide ((2:Int)=(([l,l2]:List (List Pc)).length:Nat))))=false:=rfl
 have e2:decide (((([l,l2]:List (List Pc)).length:Nat):Int)=0)=false:=rfl
 rw[e1,cond_false,e2,cond_false]
 refine aJ (λm x r=>((m=2/\x=((),(([]:List Pc),((0:Int),()))))\/(m=1/\x=((),(l,((1:Int),()))))\/(m=0/\x=((),(l++l2,((2:Int),())))))/\r=some ((l++l2++[(k,zS)],()),())) ?_ N0 2 _ _ (by unfold N0;omega) ⟨.inl ⟨rfl,rfl⟩,rfl⟩
 rintro m x r ⟨hx,rfl⟩ kk hkk
 rcases hx with⟨rfl,rfl⟩|⟨rfl,rfl⟩|⟨rfl,rfl⟩
 ·have l1:decide ((0:Int)<(([l,l2]:List (List Pc)).length:Nat))=true:=rfl
  have g0:([l,l2]:List (List Pc))[((0:Int)).toNat]?=some l:=rfl
  have n0:(0:Int)<=0:=by omega
  obtain⟨f1,f2⟩:=tF (a:=([]:List Pc).length) (b:=l.length) (by simp) (by omega)
  have w3:IntKind.wrap .i64 ((0:Int)+1)=1:=bc (by omega) (by omega)
  rw[l1,cond_true,if_pos n0,g0]
  simp only[if_pos f1,if_pos f2,w3,List.nil_append]
  exact hkk 1 _ _ (by omega) ⟨.inr (.inl ⟨rfl,rfl⟩),rfl⟩
 ·have l1:decide ((1:Int)<(([l,l2]:List (List Pc)).length:Nat))=true:=rfl
  have g0:([l,l2]:List (List Pc))[((1:Int)).toNat]?=some l2:=rfl
  have n0:(0:Int)<=1:=by omega
  obtain⟨f1,f2⟩:=tF (a:=l.length) (b:=l2.length) (by omega) (by omega)
  have w3:IntKind.wrap .i64 ((1:Int)+1)=2:=bc (by omega) (by omega)
  rw[l1,cond_true,if_pos n0,g0]
  simp only[if_pos f1,if_pos f2,w3]
  exact hkk 0 _ _ (by omega) ⟨.inr (.inr ⟨rfl,rfl⟩),rfl⟩
 ·have l1:decide ((2:Int)<(([l,l2]:List (List Pc)).length:Nat))=false:=rfl
  obtain⟨f1,f2⟩:=tF (a:=(l++l2).length) (b:=([(k,[0,0,0,0])]:List Pc).length) (by simp;omega) (by simp)
  rw[l1,cond_false,if_pos f1,if_pos f2]
  rfl
abbrev RdF:=(List Int×(Int×Int))×Unit->Option ((List Pc×(Bool×Unit))×((List Int×(Int×Int))×Unit))
theorem dq{s:List Int}{i:Nat}{c:Int}(h1:i<s.length)(h2:ch s i=c):cH s i c=true:=by unfold cH;simp[h1,h2]
theorem eK{s:List Int}{i:Nat}{c:Int}(h2:¬ch s i=c):cH s i c=false:=by unfold cH;simp[h2]
theorem KG{s:List Int}{i:Nat}{c:Int}(h2:s.length<=i):cH s i c=false:=by
 unfold cH
 rw[decide_eq_false (by omega)];rfl
theorem HQ{s:List Int}(hb:Bytes s)(hs:s.length<=1600){q2 q3 q4 q5:RdF}{inner:Nat->Nat->Option (Rx×Nat)}{i d:Nat}(hd:d<=i)
 (hin:i<s.length->OkP s ((d+1:Nat):Int) (2*(s.length-(i+1))) (inner (i+1) (d+1)) (q2 (kst s (i+1) ((d+1:Nat):Int),()))) (aZ:gb s (i+1) (inner (i+1) (d+1))):
 OkP s d (2*(s.length-i)) (gR inner s i d) (ta N0 q2 q3 q4 q5 (kst s i d,())):=by
 have hsm:s.length<=maxLen:=by unfold maxLen;omega
 have lL:=jM s hsm
 unfold ta
 dsimp only
 rw[aa (kJ s hsm i d [124,41,42,43,63,93,47,34] (by simp[maxLen]))]
 simp only
 have hc:jn s i [124,41,42,43,63,93,47,34]=decide (s.length<=i\/ch s i∈([124,41,42,43,63,93,47,34]:List Int)):=by
  unfold jn
  rw[Bool.eq_iff_iff,Bool.or_eq_true,decide_eq_true_eq,decide_eq_true_eq,List.any_eq_true]
  simp
 rw[hc]
 unfold gR
 by_cases h0:s.length<=i\/ch s i∈([124,41,42,43,63,93,47,34]:List Int)
 ·rw[if_pos h0,decide_eq_true h0,cond_true]
  exact⟨_,_,rfl,by simp⟩
 rw[if_neg h0,decide_eq_false h0,cond_false]
 have hlt:i<s.length:=by
  rcases Nat.lt_or_ge i s.length with h|h
  ·exact h
  ·exact absurd (.inl h) h0
 rw[aa (lL i d 46)]
 simp only
 by_cases h1:ch s i=46
 ·rw[if_pos h1,dq hlt h1]
  simp only[cond_true,if_true,wW,aX]
  rfl
 rw[if_neg h1,eK h1]
 simp only[cond_false,Bool.false_eq_true,if_false]
 rw[aa (lL i d 126)]
 simp only
 by_cases h2:ch s i=126
 ·rw[if_pos h2,dq hlt h2]
  simp only[cond_true,if_true]
  rfl
 rw[if_neg h2,eK h2]
 simp only[cond_false,Bool.false_eq_true,if_false]
 rw[aa (lL i d 40)]
 simp only
 by_cases h3:ch s i=40
 ·have h4:¬ch s i=91:=by omega
  rw[if_neg h4,if_pos h3,dq hlt h3]
  simp only[cond_true,if_true]
  have w1:IntKind.wrap .i64 ((d:Int)+1)=((d+1:Nat):Int):=aE (n:=1601) (by omega) (by simp[maxLen])
  have HR:((kst s (i+1) (d:Int)).1,((kst s (i+1) (d:Int)).2.1,IntKind.wrap .i64 ((kst s (i+1) (d:Int)).2.2+1)))=kst s (i+1) ((d+1:Nat):Int):=by
   show(s,(((i+1:Nat):Int),IntKind.wrap .i64 ((d:Int)+1)))=_
   rw[w1];rfl
  rw[HR]
  have hq:=hin hlt
  unfold OkP at hq
  cases hi2:inner (i+1) (d+1)with
  |none=>
   rw[hi2]at hq
   obtain⟨r,k,hq,hrl⟩:=hq
   rw[aa hq]
   simp only[aY,cond_false,ite_self]
   exact⟨_,_,rfl,by omega⟩
  |some p=>
   obtain⟨t,j⟩:=p
   rw[hi2]at hq
   obtain⟨r1,r2,r3,r4⟩:=aZ t j hi2
   have hpl:=t.az
   rw[aa hq]
   simp only[aY,cond_true]
   have w2:IntKind.wrap .i64 ((kst s j ((d+1:Nat):Int)).2.2-1)=(d:Int):=by
    show IntKind.wrap .i64 (((d+1:Nat):Int)-1)=_
    rw[bc (by omega) (by omega)];omega
   simp only[w2]
   have Nl:((kst s j ((d+1:Nat):Int)).1,((kst s j ((d+1:Nat):Int)).2.1,(d:Int)))=kst s j (d:Int):=rfl
   rw[Nl]
   by_cases h99:99<=d
   ·rw[if_pos h99,decide_eq_false (by omega),cond_false]
    exact⟨_,_,rfl,by omega⟩
   ·rw[if_neg h99,decide_eq_true (by omega),cond_true,aa (lL j d 41)]
    simp only
    by_cases h41:j<s.length/\ch s j=41
    ·rw[if_pos h41,dq h41.1 h41.2]
     rfl
    ·rw[if_neg h41]
     have:cH s j 41=false:=by
      unfold cH
      rw[Bool.and_eq_false_iff,decide_eq_false_iff_not,decide_eq_false_iff_not]
      by_cases h:j<s.length
      ·exact .inr λh2=>h41 ⟨h,h2⟩
      ·exact .inl h
     rw[this]
     exact⟨_,_,rfl,by omega⟩
 rw[eK h3]
 simp only[cond_false,Bool.false_eq_true,if_false]
 rw[aa (lL i d 91)]
 simp only
 by_cases h4:ch s i=91
 ·rw[if_pos h4,dq hlt h4]
  simp only[cond_true,if_true]
  have hq:=EJ hb hsm (show i+1<=s.length by omega) (d:Int)
  unfold OkP at hq
  cases hbr:brS s (i+1)with
  |none=>
   rw[hbr]at hq
   obtain⟨r,k,hq,hrl⟩:=hq
   rw[aa hq]
   exact⟨_,_,rfl,by show r.length<=_;omega⟩
  |some p=>
   obtain⟨t,j⟩:=p
   rw[hbr]at hq
   simp only at hq
   rw[aa hq]
   rfl
 rw[if_neg h4,if_neg h3,eK h4]
 simp only[cond_false,Bool.false_eq_true,if_false]
 rw[aa (qM hb hsm (Nat.le_of_lt hlt) d)]
 unfold rdK
 cases hrd:rdS (s.drop i)with
 |none=>
  simp only
  rw[aa (wZ (c:=0) ⟨by omega,by omega⟩)]
  exact⟨_,_,rfl,by simp;omega⟩
 |some p=>
  obtain⟨c,n⟩:=p
  obtain⟨r1,_,_⟩:=fW (hb.drop i) hrd
  simp only
  rw[aa (wZ r1)]
  rfl
end
noncomputable section
theorem zr{s:List Int}(hb:Bytes s)(hs:s.length<=1600){q2 q3 q4 q5:RdF}{inner:Nat->Nat->Option (Rx×Nat)}{i d:Nat}{B:Nat}
 (b9:OkP s d B (gR inner s i d) (q5 (kst s i d,()))) (aZ:gb s i (gR inner s i d)):
 OkP s d 0 (fV inner s i d) (s9 N0 q2 q3 q4 q5 (kst s i d,())):=by
 have hsm:s.length<=maxLen:=by unfold maxLen;omega
 have lL:=jM s hsm
 unfold s9
 dsimp only
 unfold fV
 unfold OkP at b9
 cases ho:gR inner s i d with
 |none=>
  rw[ho]at b9
  obtain⟨r,k,hq,hrl⟩:=b9
  rw[aa hq]
  refine bL (λm x=>m=0) (OkP s d 0 none) ?_ N0 0 _ (by unfold N0;omega) rfl
  rintro m x hm k hk
  exact⟨_,_,rfl,by simp⟩
 |some p=>
  obtain⟨t0,j0⟩:=p
  rw[ho]at b9
  simp only at b9
  have hr0:=aZ t0 j0 ho
  rw[aa b9]
  simp only
  generalize hrs:kc s s.length.succ j0 t0=res
  refine bL (λm x=>∃ (j:Nat) (t:Rx) (aP:Nat),x=((kst s j d,()),(t.post,()))/\Res s i t j/\s.length-j<aP/\m=s.length-j/\kc s aP j t=res) (OkP s d 0 res) ?_ N0 (s.length-j0) _ (by unfold N0;omega) ⟨j0,t0,_,rfl,hr0,by omega,rfl,hrs⟩
  rintro m x ⟨j,t,aP,rfl,hr,hf,hm,hl⟩ k hk
  obtain⟨aP,rfl⟩:∃ q,aP=q+1:=⟨aP-1,by omega⟩
  simp only[kc]at hl
  simp only[aY,cond_true]
  have B6:∀ kk:Int,(kk=4\/kk=5\/kk=6)->nU N0 (kk,([t.post],()))=some (((Rx.rep kk t).post,()),()):=λkk hkk=>by
   rw[B5 hkk (by rw[t.az];obtain⟨_,h1,h2,_⟩:=hr;omega)]
   rfl
  have go:j<s.length->∀ kk:Int,kk=eJ (ch s j)->kc s aP (j+1) (.rep (eJ (ch s j)) t)=res->OkP s d 0 res (k ((kst s (j+1) d,()),((Rx.rep kk t).post,()))):=by
   intro hlt kk hkk hl
   obtain⟨h1,h2,h3,h4⟩:=hr
   exact hk (s.length-(j+1)) _ (by omega) ⟨j+1,.rep kk t,aP,rfl,⟨by omega,by omega,by simp only[Rx.len];omega,by rw[hkk];exact lK _,h4⟩,by omega,rfl,by rw[hkk];exact hl⟩
  rw[aa (lL j d 42)]
  simp only
  by_cases hc:j<s.length/\ch s j∈([42,43,63]:List Int)
  ·rw[if_pos hc]at hl
   obtain⟨hlt,fi⟩:=hc
   by_cases h1:ch s j=42
   ·rw[dq hlt h1]
    simp only[cond_true,if_true]
    rw[aa (B6 4 (by omega))]
    exact go hlt 4 (by rw[h1];rfl) hl
   ·rw[eK h1]
    simp only[cond_false,Bool.false_eq_true,if_false]
    rw[aa (lL j d 43)]
    simp only
    by_cases h2:ch s j=43
    ·rw[dq hlt h2]
     simp only[cond_true,if_true]
     rw[aa (B6 5 (by omega))]
     exact go hlt 5 (by rw[h2];rfl) hl
    ·rw[eK h2]
     simp only[cond_false,Bool.false_eq_true,if_false]
     rw[aa (lL j d 63)]
     simp only
     have h3:ch s j=63:=by simpa [h1,h2]using fi
     rw[dq hlt h3]
     simp only[cond_true,if_true]
     rw[aa (B6 6 (by omega))]
     exact go hlt 6 (by rw[h3];rfl) hl
  ·rw[if_neg hc]at hl
   have hno:∀ c:Int,c∈([42,43,63]:List Int)->cH s j c=false:=by
    intro c hcm
    unfold cH
    rw[Bool.and_eq_false_iff,decide_eq_false_iff_not,decide_eq_false_iff_not]
    by_cases h:j<s.length
    ·exact .inr λh2=>hc ⟨h,h2 ▸ hcm⟩
    ·exact .inl h
   rw[hno 42 (by simp)]
   simp only[cond_false,Bool.false_eq_true,if_false]
   rw[aa (lL j d 43)]
   simp only
   rw[hno 43 (by simp)]
   simp only[cond_false,Bool.false_eq_true,if_false]
   rw[aa (lL j d 63)]
   simp only
   rw[hno 63 (by simp)]
   simp only[cond_false,Bool.false_eq_true,if_false]
   subst hl
   rfl
theorem HS{s:List Int}(hb:Bytes s)(hs:s.length<=1600){q2 q3 q4 q5:RdF}{inner:Nat->Nat->Option (Rx×Nat)}{i d:Nat}(hi:i<=s.length)
 (aK:∀ j,i<=j->j<=s.length->OkP s d 0 (fV inner s j d) (q4 (kst s j d,()))) (aZ:∀ j,i<=j->gb s j (fV inner s j d)):
 OkP s d (2*(s.length-i)) (ga inner s i d) (s8 N0 q2 q3 q4 q5 (kst s i d,())):=by
 have hsm:s.length<=maxLen:=by unfold maxLen;omega
 unfold s8
 dsimp only
 unfold ga
 have b9:=aK i (Nat.le_refl _) hi
 unfold OkP at b9
 cases ho:fV inner s i d with
 |none=>
  rw[ho]at b9
  obtain⟨r,k,hq,hrl⟩:=b9
  rw[aa hq]
  refine bL (λm x=>m=0/\x=((k,()),(r,(false,())))) (OkP s d (2*(s.length-i)) none) ?_ N0 0 _ (by unfold N0;omega) ⟨rfl,rfl⟩
  rintro m x ⟨_,rfl⟩ k hk
  simp only[aY,cond_false]
  exact⟨_,_,rfl,by omega⟩
 |some p=>
  obtain⟨t0,j0⟩:=p
  rw[ho]at b9
  simp only at b9
  have hr0:=aZ i (Nat.le_refl _) t0 j0 ho
  rw[aa b9]
  simp only
  generalize hrs:kH inner s d s.length.succ j0 t0=res
  refine bL (λm x=>(∃ (j:Nat) (t:Rx) (aP:Nat),x=((kst s j d,()),(t.post,(true,())))/\Res s i t j/\s.length-j<aP/\m=s.length-j+1/\kH inner s d aP j t=res)\/(∃ r k,x=((k,()),(r,(false,())))/\r.length<=2*(s.length-i)/\res=none/\m=0)) (OkP s d (2*(s.length-i)) res) ?_ N0 (s.length-j0+1) _ (by unfold N0;omega) (.inl ⟨j0,t0,_,rfl,hr0,by omega,rfl,hrs⟩)
  rintro m x (⟨j,t,aP,rfl,hr,hf,hm,hl⟩|⟨r,kk,rfl,hrl,rfl,rfl⟩) k hk
  ·obtain⟨aP,rfl⟩:∃ q,aP=q+1:=⟨aP-1,by omega⟩
   simp only[kH]at hl
   simp only[aY,cond_true]
   rw[aa (kJ s hsm j d [124,41] (by simp[maxLen]))]
   simp only
   have hc:jn s j [124,41]=decide (¬(j<s.length/\ch s j∉([124,41]:List Int))):=by
    unfold jn
    rw[Bool.eq_iff_iff,Bool.or_eq_true,decide_eq_true_eq,decide_eq_true_eq,List.any_eq_true]
    simp only[List.mem_cons,List.not_mem_nil,or_false,decide_eq_true_eq]
    constructor
    ·rintro(h|⟨c,hc,h⟩)
     ·omega
     ·rintro⟨_,h2⟩;exact h2 (by rw[h];exact hc)
    ·intro h
     by_cases hj:j<s.length
     ·right
      refine⟨ch s j,?_,rfl⟩
      by_cases h2:ch s j=124\/ch s j=41
      ·exact h2
      ·exact absurd ⟨hj,h2⟩ h
     ·left;omega
   rw[hc]
   by_cases hgo:j<s.length/\ch s j∉([124,41]:List Int)
   ·rw[if_pos hgo]at hl
    rw[decide_eq_false (by simpa using hgo)]
    simp only[Bool.not_false,cond_true]
    obtain⟨g1,g2,g3,g4⟩:=hr
    have hq:=aK j (by omega) (by omega)
    unfold OkP at hq
    cases h2:fV inner s j d with
    |none=>
     rw[h2]at hq hl
     obtain⟨r,kx,hq,hrl⟩:=hq
     rw[aa hq]
     simp only
     have hr0:r=[]:=List.eq_nil_of_length_eq_zero (by omega)
     subst hr0
     rw[aa (kM (.inl rfl) (by rw[t.az];omega) (by simp))]
     exact hk 0 _ (by omega) (.inr ⟨_,_,rfl,by simp[t.az];omega,hl.symm,rfl⟩)
    |some p=>
     obtain⟨t2,j2⟩:=p
     rw[h2]at hq hl
     simp only at hq hl
     obtain⟨f1,f2,f3,f4⟩:=aZ j (by omega) t2 j2 h2
     rw[aa hq]
     simp only
     rw[aa (kM (.inl rfl) (by rw[t.az];omega) (by rw[t2.az];omega))]
     exact hk (s.length-j2+1) _ (by omega) (.inl ⟨j2,.cat t t2,aP,rfl,⟨by omega,by omega,by simp only[Rx.len];omega,g4,f4⟩,by omega,rfl,hl⟩)
   ·rw[if_neg hgo]at hl
    rw[decide_eq_true hgo]
    simp only[Bool.not_true,cond_false]
    subst hl
    rfl
  ·simp only[aY,cond_false]
   exact⟨_,_,rfl,hrl⟩
theorem HT{s:List Int}(hb:Bytes s)(hs:s.length<=1600){q2 q3 q4 q5:RdF}{inner:Nat->Nat->Option (Rx×Nat)}{i d:Nat}(hi:i<=s.length)
 (qP:∀ j,i<=j->j<=s.length->OkP s d (2*(s.length-j)) (ga inner s j d) (q3 (kst s j d,()))) (aZ:∀ j,i<=j->gb s j (ga inner s j d)):
 OkP s d (2*(s.length-i)) (tC inner s i d) (s7 N0 q2 q3 q4 q5 (kst s i d,())):=by
 have hsm:s.length<=maxLen:=by unfold maxLen;omega
 have lL:=jM s hsm
 unfold s7
 dsimp only
 unfold tC
 have b9:=qP i (Nat.le_refl _) hi
 unfold OkP at b9
 cases ho:ga inner s i d with
 |none=>
  rw[ho]at b9
  obtain⟨r,k,hq,hrl⟩:=b9
  rw[aa hq]
  refine bL (λm x=>m=0/\x=((k,()),(r,(false,())))) (OkP s d (2*(s.length-i)) none) ?_ N0 0 _ (by unfold N0;omega) ⟨rfl,rfl⟩
  rintro m x ⟨_,rfl⟩ k hk
  simp only[aY,cond_false]
  exact⟨_,_,rfl,by omega⟩
 |some p=>
  obtain⟨t0,j0⟩:=p
  rw[ho]at b9
  simp only at b9
  have hr0:=aZ i (Nat.le_refl _) t0 j0 ho
  rw[aa b9]
  simp only
  generalize hrs:kI inner s d s.length.succ j0 t0=res
  refine bL (λm x=>(∃ (j:Nat) (t:Rx) (aP:Nat),x=((kst s j d,()),(t.post,(true,())))/\Res s i t j/\s.length-j<aP/\m=s.length-j+1/\kI inner s d aP j t=res)\/(∃ r k,x=((k,()),(r,(false,())))/\r.length<=2*(s.length-i)/\res=none/\m=0)) (OkP s d (2*(s.length-i)) res) ?_ N0 (s.length-j0+1) _ (by unfold N0;omega) (.inl ⟨j0,t0,_,rfl,hr0,by omega,rfl,hrs⟩)
  rintro m x (⟨j,t,aP,rfl,hr,hf,hm,hl⟩|⟨r,kk,rfl,hrl,rfl,rfl⟩) k hk
  ·obtain⟨aP,rfl⟩:∃ q,aP=q+1:=⟨aP-1,by omega⟩
   simp only[kI]at hl
   simp only[aY,cond_true]
   rw[aa (lL j d 124)]
   simp only
   by_cases hgo:j<s.length/\ch s j=124
   ·rw[if_pos hgo]at hl
    rw[dq hgo.1 hgo.2]
    simp only[if_true,cond_true]
    obtain⟨g1,g2,g3,g4⟩:=hr
    have hq:=qP (j+1) (by omega) (by omega)
    unfold OkP at hq
    cases h2:ga inner s (j+1) d with
    |none=>
     rw[h2]at hq hl
     obtain⟨r,kx,hq,hrl⟩:=hq
     rw[aa hq]
     simp only
     rw[aa (kM (.inr rfl) (by rw[t.az];omega) (by omega))]
     exact hk 0 _ (by omega) (.inr ⟨_,_,rfl,by simp[t.az];omega,hl.symm,rfl⟩)
    |some p=>
     obtain⟨t2,j2⟩:=p
     rw[h2]at hq hl
     simp only at hq hl
     obtain⟨f1,f2,f3,f4⟩:=aZ (j+1) (by omega) t2 j2 h2
     rw[aa hq]
     simp only
     rw[aa (kM (.inr rfl) (by rw[t.az];omega) (by rw[t2.az];omega))]
     exact hk (s.length-j2+1) _ (by omega) (.inl ⟨j2,.alt t t2,aP,rfl,⟨by omega,by omega,by simp only[Rx.len];omega,g4,f4⟩,by omega,rfl,hl⟩)
   ·rw[if_neg hgo]at hl
    have:cH s j 124=false:=by
     unfold cH
     rw[Bool.and_eq_false_iff,decide_eq_false_iff_not,decide_eq_false_iff_not]
     by_cases h:j<s.length
     ·exact .inr λh2=>hgo ⟨h,h2⟩
     ·exact .inl h
    rw[this]
    simp only[Bool.false_eq_true,if_false,cond_false]
    subst hl
    rfl
  ·simp only[aY,cond_false]
   exact⟨_,_,rfl,hrl⟩
end
noncomputable section
theorem HU{s:List Int}(hb:Bytes s)(hs:s.length<=1600):∀ (n D i d:Nat),4*n<=D->s.length-i<n->i<=s.length->d<=i->OkP s d (2*(s.length-i)) (fA s n i d) ((bo N0 D).1 (kst s i d,())):=by
 intro n
 induction n with
 |zero=>intro D i d _ h;omega
 |succ n ih=>
  intro D i d hD hn hi hd
  obtain⟨D,rfl⟩:∃ q,D=q+1+1+1+1:=⟨D-4,by omega⟩
  have aZ:∀ i d,s.length-i<n->gb s i (fA s n i d):=λi d h=>fe hb n i d h
  have b9:∀ j,i<=j->j<=s.length->OkP s d (2*(s.length-j)) (gR (fA s n) s j d) ((bo N0 (D+1)).2.2.2 (kst s j d,())):=λj hij hj=>
   HQ (q2:=(bo N0 (D)).1) (q3:=(bo N0 (D)).2.1) (q4:=(bo N0 (D)).2.2.1) (q5:=(bo N0 (D)).2.2.2) hb hs (Nat.le_trans hd hij) (λhlt=>ih D (j+1) (d+1) (by omega) (by omega) (by omega) (by omega)) (λt j2 h=>by
    rcases Nat.lt_or_ge j s.length with hlt|hge
    ·exact aZ (j+1) (d+1) (by omega) t j2 h
    ·cases n with
     |zero=>cases h
     |succ n=>exact fe hb (n+1) (j+1) (d+1) (by omega) t j2 h)
  have zt:∀ j,i<=j->gb s (j+1) (fA s n (j+1) (d+1)):=λj hij t j2 h=>by
   rcases Nat.lt_or_ge j s.length with hlt|hge
   ·exact aZ (j+1) (d+1) (by omega) t j2 h
   ·cases n with
    |zero=>cases h
    |succ n=>exact fe hb (n+1) (j+1) (d+1) (by omega) t j2 h
  have aK:∀ j,i<=j->j<=s.length->OkP s d 0 (fV (fA s n) s j d) ((bo N0 (D+1+1)).2.2.1 (kst s j d,())):=λj hij hj=>
   zr (q2:=(bo N0 (D+1)).1) (q3:=(bo N0 (D+1)).2.1) (q4:=(bo N0 (D+1)).2.2.1) (q5:=(bo N0 (D+1)).2.2.2) hb hs (b9 j hij hj) (n7 hb (zt j hij))
  have qP:∀ j,i<=j->j<=s.length->OkP s d (2*(s.length-j)) (ga (fA s n) s j d) ((bo N0 (D+1+1+1)).2.1 (kst s j d,())):=λj hij hj=>
   HS (q2:=(bo N0 (D+1+1)).1) (q3:=(bo N0 (D+1+1)).2.1) (q4:=(bo N0 (D+1+1)).2.2.1) (q5:=(bo N0 (D+1+1)).2.2.2) hb hs hj (λj2 hj2 hj3=>aK j2 (Nat.le_trans hij hj2) hj3) (λj2 hj2=>kK hb (zt j2 (Nat.le_trans hij hj2)))
  exact HT (q2:=(bo N0 (D+1+1+1)).1) (q3:=(bo N0 (D+1+1+1)).2.1) (q4:=(bo N0 (D+1+1+1)).2.2.1) (q5:=(bo N0 (D+1+1+1)).2.2.2) hb hs hi qP (λj hij t j2 h=>kL hb n aZ (by omega) t j2 h)
def B7(o:Except Int Rx):(List Pc×(Int×Unit))×Unit:=match o with
 |.ok t=>((t.post,(0,())),())
 |.error e=>(([],(e,())),())
theorem w7{s:List Int}(hb:Bytes s)(hsm:s.length<=maxLen):Eb N0 (s,())=some (B7 (cG s)):=by
 unfold Eb cG
 dsimp only
 by_cases hs:1600<s.length
 ·rw[if_pos hs,decide_eq_true (show(1600:Int)<((s.length:Nat):Int) by omega),cond_true]
  rfl
 rw[if_neg hs,decide_eq_false (show ¬(1600:Int)<((s.length:Nat):Int) by omega),cond_false]
 have hq:OkP s ((0:Nat):Int) (2*(s.length-0)) (fA s s.length.succ 0 0) (Hq N0 (kst s 0 ((0:Nat):Int),())):=HU hb (by omega) s.length.succ N0 0 0 (by unfold N0;omega) (by omega) (Nat.zero_le _) (Nat.le_refl _)
 have hk:kst s 0 ((0:Nat):Int)=(s,((0:Int),(0:Int))):=rfl
 rw[hk]at hq
 unfold OkP at hq
 cases ho:fA s s.length.succ 0 0 with
 |none=>
  rw[ho]at hq
  obtain⟨r,k,hq,_⟩:=hq
  rw[aa hq]
  rfl
 |some p=>
  obtain⟨t,i⟩:=p
  rw[ho]at hq
  simp only at hq
  rw[aa hq]
  simp only[aY,Bool.not_true,cond_false]
  have h1:decide ((kst s i ((0:Nat):Int)).2.1<((s.length:Nat):Int))=decide (i<s.length):=by
   rw[decide_eq_decide];show(i:Int)<_↔_;omega
  rw[h1]
  by_cases h2:i<s.length
  ·rw[if_pos h2,decide_eq_true h2];rfl
  rw[if_neg h2,decide_eq_false h2,cond_false]
  rw[t.az]
  by_cases h3:400<t.len
  ·rw[if_pos h3,decide_eq_true (show(400:Int)<((t.len:Nat):Int) by omega)];rfl
  ·rw[if_neg h3,decide_eq_false (show ¬(400:Int)<((t.len:Nat):Int) by omega)];rfl
theorem jN{s:List Int}(hb:Bytes s){t:Rx}(h:cG s=.ok t):t.ok/\t.len<=400/\t.len+1<=2*s.length:=by
 unfold cG at h
 split at h
 ·cases h
 split at h
 ·cases h
 rename_i t2 i ho
 obtain⟨h1,h2,h3,h4⟩:=fe hb _ _ _ (by omega) _ _ ho
 split at h
 ·cases h
 split at h
 ·cases h
 injection h with h
 subst h
 exact⟨h4,by omega,by omega⟩
end
noncomputable section
theorem av{A R:Type}{J:A->Option R}{body:(A->Option R)->Option R}(x:A)(h:∀ K,body K=K x){r:Option R}(hr:J x=r):aj J body=r:=(h J).trans hr
theorem bW{A R:Type}{P:Option R->Prop}{J:A->Option R}{body:(A->Option R)->Option R}(x:A)(h:∀ K,body K=K x)(hr:P (J x)):P (aj J body):=by
 show P (body J)
 rw[h J];exact hr
def EK(l:List Int)(c:Int):Bool:=l.any λb=>decide (b=c)
theorem B8(l:List Int)(c:Int):EK l c=decide (c∈l):=by
 unfold EK
 rw[Bool.eq_iff_iff,List.any_eq_true,decide_eq_true_eq]
 constructor
 ·rintro⟨b,hb,h⟩
  rw[decide_eq_true_eq]at h
  exact h ▸ hb
 ·intro h
  exact⟨c,h,by simp⟩
theorem EL(l:List Int)(hl:l.length<=maxLen)(c:Int):tf N0 (l,(c,()))=some ((decide (c∈l),()),()):=by
 unfold tf
 simp only
 rw[<-B8]
 refine aJ (λm x r=>∃ j:Nat,x=((),((j:Int),()))/\m+j=l.length/\r=some ((EK (l.drop j) c,()),())) ?_ N0 l.length _ _ (by have:=gO hl;omega) ⟨0,rfl,rfl,by rw[List.drop_zero]⟩
 rintro m x r ⟨j,rfl,hm,rfl⟩ k hk
 simp only
 rcases Nat.lt_or_ge j l.length with hj|hj
 ·have n1:(0:Int)<=(j:Int):=by omega
  rw[decide_eq_true (show(j:Int)<((l.length:Nat):Int) by omega),cond_true,if_pos n1,Int.toNat_natCast,List.getElem?_eq_getElem hj]
  simp only[aE hj hl]
  unfold EK
  rw[List.drop_eq_getElem_cons hj,List.any_cons]
  cases hd:decide (l[j]=c)
  ·rw[cond_false,Bool.false_or]
   exact hk (m-1) _ _ (by omega) ⟨j+1,rfl,by omega,rfl⟩
  ·rw[cond_true,Bool.true_or]
 ·rw[decide_eq_false (show ¬(j:Int)<((l.length:Nat):Int) by omega),cond_false,List.drop_of_length_le hj]
  rfl
theorem kN(l:List Int)(hl:l.length<=maxLen)(c:Int):tc N0 (l,(c,()))=some ((decide (c∈l),()),()):=by
 have:tc=tf:=rfl
 rw[this];exact EL l hl c
def lM(n:Nat):Int:=if n<10 then 48+(n:Int)else 87+(n:Int)
def B9(c:Nat):List Int:=if c=10 then [92,110]else if c=9 then [92,116]else if c=13 then [92,114]else
 if c<32\/126<c then [92,120,lM (c / 16),lM (c % 16)]else if c=92 then [92,92]else [(c:Int)]
theorem Ca:∀ c:Fin 256,Es N0 (((c.val:Nat):Int),(([]:List Int),()))=some ((B9 c.val,()),()):=by decide +kernel
theorem Cb{c:Nat}(h:c<256):Es N0 ((c:Int),(([]:List Int),()))=some ((B9 c,()),()):=Ca ⟨c,h⟩
theorem Cc:∀ c:Fin 256,BE N0 (((c.val:Nat):Int),())=some ((iD ((c.val:Nat):Int),()),()):=by decide +kernel
theorem EM{c:Int}(h:0<=c/\c<=255):BE N0 (c,())=some ((iD c,()),()):=by
 have:=Cc ⟨c.toNat,by omega⟩
 simp only[Int.toNat_of_nonneg h.1]at this
 exact this
def KH:List Int:=[48,49,50,51,52,53,54,55,56,57,97,98,99,100,101,102]
theorem tG:∀ q:Fin 16,br KH ((q.val:Nat):Int) (((q.val+1:Nat)):Int)=[lM q.val]:=by decide +kernel
theorem Cd:∀ q:Fin 16,kG (lM q.val)=some ((q.val:Nat):Int):=by decide +kernel
theorem pk{q:Nat}(h:q<16):kG (lM q)=some (q:Int):=Cd ⟨q,h⟩
theorem pn{h v:Int}(e:kG h=some v):lM v.toNat=h:=by
 unfold kG at e
 unfold lM
 split at e
 ·injection e with e
  rw[if_pos (by omega)];omega
 ·split at e
  ·injection e with e
   rw[if_neg (by omega)];omega
  ·cases e
def mA(s:List Int)(c:Nat):Bool:=(decide (c=10)&&decide (s[1]?=some 110))||(decide (c=9)&&decide (s[1]?=some 116))||(decide (c=13)&&decide (s[1]?=some 114))
def mB(s:List Int)(c:Nat):Bool:=decide (s[1]?=some 120)&&(decide (s[2]?=some (lM (c / 16)))&&decide (s[3]?=some (lM (c % 16))))
theorem KI{r:List Int}{c:Nat}(h:mA (92::r) c=true):rdS (92::r)=some ((c:Int),2):=by
 unfold mA at h
 cases r with
 |nil=>simp at h
 |cons d r2=>
  simp only[List.getElem?_cons_succ,List.getElem?_cons_zero,Option.some.injEq,Bool.or_eq_true,Bool.and_eq_true,decide_eq_true_eq]at h
  rcases h with(⟨rfl,rfl⟩|⟨rfl,rfl⟩)|⟨rfl,rfl⟩ <;> rfl
theorem KJ{r:List Int}{c:Nat}(hc:c<256)(h:mB (92::r) c=true):rdS (92::r)=some ((c:Int),4):=by
 unfold mB at h
 match r with
 |[]=>simp at h
 |[d]=>simp at h
 |[d,x]=>simp at h
 |d::x::y::r4=>
  simp only[List.getElem?_cons_succ,List.getElem?_cons_zero,Option.some.injEq,Bool.and_eq_true,decide_eq_true_eq]at h
  obtain⟨rfl,rfl,rfl⟩:=h
  have e1:=pk (q:=c / 16) (by omega)
  have e2:=pk (q:=c % 16) (by omega)
  simp only[rdS]
  rw[e1,e2]
  have:(16:Int)*((c / 16:Nat):Int)+((c % 16:Nat):Int)=(c:Int):=by omega
  simp
  omega
def Ce(s:List Int):Option (Int×Nat):=match s[1]? with
 |some d=>if 32<=d/\d<=126/\iD d=false then some (d,2)else none
 |none=>none
theorem EN{r:List Int}(hA:∀ c,c<256->mA (92::r) c=false)(hB:∀ c,c<256->mB (92::r) c=false):rdS (92::r)=Ce (92::r):=by
 match r with
 |[]=>rfl
 |d::r2=>
  have a1:=hA 10 (by omega)
  have a2:=hA 9 (by omega)
  have a3:=hA 13 (by omega)
  simp only[mA,List.getElem?_cons_succ,List.getElem?_cons_zero,Option.some.injEq]at a1 a2 a3
  have d1:¬d=110:=by simpa using a1
  have d2:¬d=116:=by simpa using a2
  have d3:¬d=114:=by simpa using a3
  simp only[rdS,Ce,List.getElem?_cons_succ,List.getElem?_cons_zero,ne_eq,not_true_eq_false,if_false,d1,d2,d3]
  by_cases d4:d=120
  ·subst d4
   rw[if_pos rfl]
   have hw:¬((32:Int)<=120/\(120:Int)<=126/\iD 120=false):=by decide
   rw[if_neg hw]
   match r2 with
   |[]=>rfl
   |[x]=>rfl
   |x::y::r4=>
    simp only
    cases hx:kG x with
    |none=>rfl
    |some a=>
     cases hy:kG y with
     |none=>rfl
     |some b=>
      exfalso
      have ha:=jL hx
      have hb:=jL hy
      have:=hB (16*a+b).toNat (by omega)
      have e1:(16*a+b).toNat / 16=a.toNat:=by omega
      have e2:(16*a+b).toNat % 16=b.toNat:=by omega
      simp[mB,e1,e2,pn hx,pn hy]at this
  ·rw[if_neg d4]
   cases hw:iD d
   ·by_cases h1:32<=d/\d<=126
    ·rw[if_neg (by simp;omega),if_pos ⟨h1.1,h1.2,rfl⟩]
    ·rw[if_pos (by simp;omega),if_neg (λh=>h1 ⟨h.1,h.2.1⟩)]
   ·rw[if_pos (.inl rfl),if_neg (λh=>by cases h.2.2)]
theorem qQ{s:List Int}(hb:Bytes s)(hs:s.length<=maxLen):zg N0 (s,())=some (rdR (rdS s),()):=by
 unfold zg
 dsimp only
 cases s with
 |nil=>rfl
 |cons c r=>
  have e0:decide ((c::r:List Int)=[])=false:=rfl
  have n0:(0:Int)<=0:=by omega
  have g0:(c::r)[((0:Int)).toNat]?=some c:=rfl
  rw[e0,cond_false,if_pos n0,g0]
  simp only[if_pos n0]
  by_cases hc:c=92
  ·subst hc
   simp only[decide_true,Bool.not_true,cond_false]
   refine aJ (λm x q=>∃ c:Nat,x=((),((c:Int),()))/\m+c=256/\(∀ c',c' < c->mA (92::r) c'=false/\mB (92::r) c'=false)/\q=some (rdR (rdS (92::r)),())) ?_ N0 256 _ _ (by unfold N0;omega) ⟨0,rfl,rfl,λc' h=>by omega,rfl⟩
   rintro m x q ⟨c,rfl,hm,fv,rfl⟩ k hk
   dsimp only
   rcases Nat.lt_or_ge c 256 with hc|hc
   ·have w8:IntKind.wrap .u8 (c:Int)=(c:Int):=fc hc
    rw[decide_eq_true (show(c:Int)<256 by omega),cond_true,w8,aa (Cb hc)]
    dsimp only
    refine av ((),(mA (92::r) c,())) (λK=>?_) ?_
    ·have tH:decide (br (92::r) 0 2=[92,110])=decide ((92::r:List Int)[1]?=some 110)/\decide (br (92::r) 0 2=[92,116])=decide ((92::r:List Int)[1]?=some 116)/\decide (br (92::r) 0 2=[92,114])=decide ((92::r:List Int)[1]?=some 114):=by
      unfold br
      cases r with
      |nil=>exact⟨rfl,rfl,rfl⟩
      |cons d r2=>simp
     have hlen:∀ v:Int,decide (1<(((92::r:List Int).length:Nat):Int))=false->decide ((92::r:List Int)[1]?=some v)=false:=by
      intro v h
      cases r with
      |nil=>rfl
      |cons d r2=>simp at h;omega
     have w9:decide (1<(((92::r:List Int).length:Nat):Int))=true->(0:Int)<=0/\(0:Int)<=2/\(2:Int)<=(((92::r:List Int).length:Nat):Int):=by
      intro h
      rw[decide_eq_true_eq]at h
      omega
     have h12:∀ (v:Int) (b:Bool),v≠92->b=decide ((92::r:List Int)[1]?=some v)->decide (br (92::r) 0 2=[92,v])=decide ((92::r:List Int)[1]?=some v)->
      (bif decide ((([92,v]:List Int).length:Int)=2)then(if(0:Int)<=1 then(match([92,v]:List Int)[((1:Int)).toNat]? with|some v12=>(bif(!decide (v12=92))then(bif decide (1<(((92::r:List Int).length:Nat):Int))then(if(0:Int)<=0/\(0:Int)<=2/\(2:Int)<=(((92::r:List Int).length:Nat):Int)then K ((),(decide (br (92::r) 0 2=[92,v]),()))else none)else K ((),(false,())))else K ((),(false,())))|none=>none)else none)else K ((),(false,())))=K ((),(b,())):=by
      intro v b hv hb hcu
      have e1:decide ((([92,v]:List Int).length:Int)=2)=true:=rfl
      have e2:([92,v]:List Int)[((1:Int)).toNat]?=some v:=rfl
      have e3:(!decide (v=92))=true:=by simp[hv]
      rw[e1,cond_true,if_pos (show(0:Int)<=1 by omega),e2]
      dsimp only
      rw[e3,cond_true]
      cases hl:decide (1<(((92::r:List Int).length:Nat):Int))
      ·rw[cond_false,hb,hlen v hl]
      ·rw[cond_true,if_pos (w9 hl),hcu,hb]
     unfold B9 mA
     by_cases h1:c=10
     ·rw[if_pos h1]
      refine h12 110 _ (by decide) ?_ tH.1
      simp[h1]
     rw[if_neg h1]
     by_cases h2:c=9
     ·rw[if_pos h2]
      refine h12 116 _ (by decide) ?_ tH.2.1
      simp[h2]
     rw[if_neg h2]
     by_cases h3:c=13
     ·rw[if_pos h3]
      refine h12 114 _ (by decide) ?_ tH.2.2
      simp[h3]
     rw[if_neg h3]
     have e:((decide (c=10)&&decide ((92::r:List Int)[1]?=some 110))||(decide (c=9)&&decide ((92::r:List Int)[1]?=some 116))||(decide (c=13)&&decide ((92::r:List Int)[1]?=some 114)))=false:=by simp[h1,h2,h3]
     rw[e]
     split
     ·rfl
     split
     ·rfl
     ·rfl
    ·dsimp only
     cases hA:mA (92::r) c
     ·rw[cond_false]
      have w16:IntKind.wrap .i64 (Int.tdiv (c:Int) 16)=((c / 16:Nat):Int):=by
       have:Int.tdiv (c:Int) 16=((c / 16:Nat):Int):=by
        rw[show(16:Int)=((16:Nat):Int) by rfl];exact Int.ofNat_tdiv c 16 |>.symm
       rw[this];exact aL (by omega)
      have t16:Int.tmod (c:Int) 16=((c % 16:Nat):Int):=by
       rw[show(16:Int)=((16:Nat):Int) by rfl];exact Int.ofNat_tmod c 16 |>.symm
      have w17:IntKind.wrap .i64 (((c / 16:Nat):Int)+1)=((c / 16+1:Nat):Int):=by rw[<-aL (n:=c / 16+1) (by omega)];rfl
      have w18:IntKind.wrap .i64 (((c % 16:Nat):Int)+1)=((c % 16+1:Nat):Int):=by rw[<-aL (n:=c % 16+1) (by omega)];rfl
      have w19:IntKind.wrap .i64 ((c:Int)+1)=((c+1:Nat):Int):=by rw[<-aL (n:=c+1) (by omega)];rfl
      have c1:=tG ⟨c / 16,by omega⟩
      have c2:=tG ⟨c % 16,by omega⟩
      unfold KH at c1 c2
      dsimp only at c1 c2
      have n16:¬((16:Int)=0):=by omega
      rw[w16,t16,w17,w18,w19,if_neg n16,if_neg n16,if_pos (⟨by omega,by omega,by simp;omega⟩),c1,if_pos (by simp),if_neg n16,if_neg n16,if_pos (⟨by omega,by omega,by simp;omega⟩),c2,if_pos (by simp)]
      refine av ((),(mB (92::r) c,())) (λK=>?_) ?_
      ·unfold mB
       match r with
       |[]=>rfl
       |[d]=>simp
       |[d,x]=>simp
       |d::x::y::r4=>
        have l3:decide ((3:Int)<(((92::d::x::y::r4:List Int).length:Nat):Int))=true:=by
         rw[decide_eq_true_eq];simp;omega
        rw[l3,cond_true,if_pos ⟨by omega,by omega,by simp;omega⟩]
        have e:decide (br (92::d::x::y::r4) 0 4=[92,120]++[lM (c / 16)]++[lM (c % 16)])=(decide (d=120)&&(decide (x=lM (c / 16))&&decide (y=lM (c % 16)))):=by
         rw[<-Bool.decide_and,<-Bool.decide_and,decide_eq_decide]
         unfold br
         simp
        rw[e]
        simp
      ·dsimp only
       cases hB:mB (92::r) c
       ·rw[cond_false]
        refine hk (m-1) _ _ (by omega) ⟨c+1,rfl,by omega,λc' hc'=>?_,rfl⟩
        by_cases e:c'=c
        ·subst e;exact⟨hA,hB⟩
        ·exact fv c' (by omega)
       ·rw[cond_true,KJ hc hB]
        rfl
     ·rw[cond_true,KI hA]
      rfl
   ·have hc2:c=256:=by omega
    subst hc2
    rw[decide_eq_false (by omega),cond_false,EN (λc hc=>(fv c hc).1) (λc hc=>(fv c hc).2)]
    unfold Ce
    match r with
    |[]=>rfl
    |d::r2=>
     have hd:=hb d (by simp)
     have l1:decide ((1:Int)<(((92::d::r2:List Int).length:Nat):Int))=true:=by
      rw[decide_eq_true_eq];simp;omega
     have n1:(0:Int)<=1:=by omega
     have g1:(92::d::r2:List Int)[((1:Int)).toNat]?=some d:=rfl
     have g2:(92::d::r2:List Int)[1]?=some d:=rfl
     rw[g2]
     dsimp only
     refine av ((),(decide (32<=d/\d<=126/\iD d=false),())) (λK=>?_) ?_
     ·rw[l1,cond_true,if_pos n1,g1]
      dsimp only
      by_cases h1:32<=d
      ·rw[decide_eq_true h1,cond_true]
       by_cases h2:d<=126
       ·rw[decide_eq_true h2,cond_true,aa (EM hd)]
        cases iD d <;> simp[h1,h2]
       ·rw[decide_eq_false h2,cond_false]
        simp[h2]
      ·rw[decide_eq_false h1,cond_false]
       simp[h1]
     ·dsimp only
      by_cases h:32<=d/\d<=126/\iD d=false
      ·rw[decide_eq_true h,cond_true,if_pos h,if_pos n1,g1]
       rfl
      ·rw[decide_eq_false h,cond_false,if_neg h]
       rfl
  ·have hc2:decide (c=92)=false:=decide_eq_false hc
   rw[hc2]
   simp only[Bool.not_false,cond_true,rdS,ne_eq,hc,not_false_eq_true,if_true]
   rfl
end
noncomputable section
theorem xa(f:Nat->Bool){i:Nat}(h:i<256):zf N0 (ofB f,((i:Int),()))=some ((f i,()),()):=by
 unfold zf
 dsimp only
 have hw:i / 64<4:=by omega
 have hl:i % 64<64:=Nat.mod_lt _ (by omega)
 have w1:IntKind.wrap .i64 (Int.tdiv (i:Int) 64)=((i / 64:Nat):Int):=by rw[BZ];exact aL (by omega)
 have g:=fB (l:=f) hw
 have n1:¬((64:Int)=0):=by omega
 have n2:¬((2:Int)=0):=by omega
 have n3:(0:Int)<=((i / 64:Nat):Int):=by omega
 rw[if_neg n1,w1,if_pos n3,Int.toNat_natCast,g]
 simp only[if_neg n1,if_neg n2,B0]
 refine aJ (λm x q=>∃ j:Nat,x=((),(((aI f (i / 64) / 2 ^ j:Nat):Int),((j:Int),())))/\m+j=i % 64/\q=some ((f i,()),())) ?_ N0 (i % 64) _ _ (by unfold N0;omega) ⟨0,by simp,by omega,rfl⟩
 rintro m x q ⟨j,rfl,hm,rfl⟩ k hk
 dsimp only
 have hlt:=bT f (i / 64)
 by_cases hj:j<i % 64
 ·have w2:IntKind.wrap .u64 (Int.tdiv ((aI f (i / 64) / 2 ^ j:Nat):Int) 2)=((aI f (i / 64) / 2 ^ (j+1):Nat):Int):=by
   have e:Int.tdiv ((aI f (i / 64) / 2 ^ j:Nat):Int) 2=((aI f (i / 64) / 2 ^ j / 2:Nat):Int):=by
    rw[show(2:Int)=((2:Nat):Int) by rfl];exact Int.ofNat_tdiv _ 2 |>.symm
   rw[e,Nat.div_div_eq_div_mul,<-Nat.pow_succ]
   exact wrap_u64 (Nat.lt_of_le_of_lt (Nat.div_le_self _ _) hlt)
  have w3:IntKind.wrap .i64 ((j:Int)+1)=((j+1:Nat):Int):=by rw[<-aL (n:=j+1) (by omega)];rfl
  rw[decide_eq_true (show(j:Int)<((i % 64:Nat):Int) by omega),cond_true,w2,w3]
  exact hk (m-1) _ _ (by omega) ⟨j+1,rfl,by omega,rfl⟩
 ·have hj2:j=i % 64:=by omega
  rw[decide_eq_false (show ¬(j:Int)<((i % 64:Nat):Int) by omega),cond_false]
  have hb:=bJ f (i / 64) (i % 64)
  rw[Nat.testBit_eq_decide_div_mod_eq,<-hj2]at hb
  have e2:64*(i / 64)+j=i:=by omega
  rw[e2,decide_eq_true (show j<64 by omega),Bool.true_and]at hb
  have e:Int.tmod ((aI f (i / 64) / 2 ^ j:Nat):Int) 2=((aI f (i / 64) / 2 ^ j % 2:Nat):Int):=by
   rw[show(2:Int)=((2:Nat):Int) by rfl];exact Int.ofNat_tmod _ 2 |>.symm
  have e3:decide (Int.tmod ((aI f (i / 64) / 2 ^ j:Nat):Int) 2=1)=f i:=by
   rw[<-hb,e,decide_eq_decide];omega
  rw[e3]
def bits(f:Nat->Bool):List Bool:=(List.range 256).map f
theorem kO(f:Nat->Bool):(bits f).length=256:=by simp[bits]
theorem jo(f:Nat->Bool){i:Nat}(h:i<256):(bits f)[i]?=some (f i):=by
 unfold bits
 rw[List.getElem?_map,List.getElem?_range h]
 rfl
theorem n9{f g:Nat->Bool}(h:∀ i,i<256->f i=g i):bits f=bits g:=by
 unfold bits
 exact List.map_congr_left λi hi=>h i (List.mem_range.1 hi)
theorem po:List.replicate ((256:Int)).toNat false=bits (λ_=>false):=by decide +kernel
theorem tI(f:Nat->Bool){i:Nat}(h:i<256):(bits f).set i true=bits (λx=>f x||decide (x=i)):=by
 apply List.ext_getElem?
 intro j
 rw[List.getElem?_set]
 by_cases hj:j<256
 ·have g1:=jo (λx=>f x||decide (x=i)) hj
  have g2:=jo f hj
  rw[g1,g2]
  by_cases e:i=j
  ·subst e
   rw[if_pos rfl,if_pos (by rw[kO];exact h)]
   simp
  ·rw[if_neg e]
   have:¬j=i:=λh=>e h.symm
   simp[this]
 ·have e1:(bits λx=>f x||decide (x=i))[j]?=none:=List.getElem?_eq_none (by rw[kO];omega)
  have e2:(bits f)[j]?=none:=List.getElem?_eq_none (by rw[kO];omega)
  rw[e1,e2,if_neg (by omega)]
theorem EO{f:Nat->Bool}{c:Nat}(hz:∀ x,c<=x->f x=false):aI f (c / 64)+2 ^ (c % 64)=aI (λx=>f x||decide (x=c)) (c / 64):=by
 have hi:c % 64<64:=Nat.mod_lt _ (by omega)
 have hlt:aI f (c / 64)<2 ^ (c % 64):=by
  apply Nat.lt_pow_two_of_testBit
  intro j hj
  rw[bJ,hz _ (by omega),Bool.and_false]
 have e:=BX (l:=f) (w:=c / 64) hi
 have e2:64*(c / 64)+c % 64=c:=by omega
 rw[e2]at e
 rw[<-e,Nat.or_comm,Nat.add_comm]
 have:=Nat.two_pow_add_eq_or_of_lt hlt 1
 rw[Nat.mul_one]at this
 exact this
theorem EP(l:List Bool)(hl:l.length<=maxLen):vq N0 (l,())=some ((ofB (λx=>(l[x]?).getD false),()),()):=by
 unfold vq
 dsimp only
 have z:([0,0,0,0]:List Int)=ofB (λx=>decide (x<0)&&(l[x]?).getD false):=by
  rw[show([0,0,0,0]:List Int)=zS by rfl]
  refine(et.2 ?_).symm
  unfold bZ
  rw[List.all_eq_true]
  intro x _
  simp
 refine aJ (λm x q=>∃ c:Nat,x=(([0,0,0,0],(ofB (λx=>decide (x<c)&&(l[x]?).getD false),())),((c:Int),()))/\m+c=256/\q=some ((ofB (λx=>(l[x]?).getD false),()),())) ?_ N0 256 _ _ (by unfold N0;omega) ⟨0,by rw[<-z];rfl,rfl,rfl⟩
 rintro m x q ⟨c,rfl,hm,rfl⟩ k hk
 dsimp only
 refine av (([0,0,0,0],(ofB (λx=>decide (x<c)&&(l[x]?).getD false),())),(decide (c<256)&&decide (c<l.length),())) (λK=>?_) ?_
 ·by_cases h:c<256
  ·rw[decide_eq_true (show(c:Int)<256 by omega),cond_true,decide_eq_true h,Bool.true_and]
   have:decide ((c:Int)<((l.length:Nat):Int))=decide (c<l.length):=by rw[decide_eq_decide];omega
   rw[this]
  ·rw[decide_eq_false (show ¬(c:Int)<256 by omega),cond_false,decide_eq_false h,Bool.false_and]
 dsimp only
 by_cases h:c<256/\c<l.length
 ·obtain⟨hc,hcl⟩:=h
  have n0:(0:Int)<=(c:Int):=by omega
  have KK:l[c]?=some l[c]:=List.getElem?_eq_getElem hcl
  rw[decide_eq_true hc,decide_eq_true hcl,Bool.true_and,cond_true,if_pos n0,Int.toNat_natCast,KK]
  dsimp only
  have w3:IntKind.wrap .i64 ((c:Int)+1)=((c+1:Nat):Int):=by rw[<-aL (n:=c+1) (by omega)];rfl
  refine av (([0,0,0,0],(ofB (λx=>decide (x<c+1)&&(l[x]?).getD false),())),()) (λK=>?_) ?_
  ·have FW:∀ x:Nat,(decide (x<c+1)&&(l[x]?).getD false)=((decide (x<c)&&(l[x]?).getD false)||(decide (x=c)&&l[c])):=by
    intro x
    by_cases hx:x=c
    ·subst hx
     have h1:¬x<x:=by omega
     have h2:x<x+1:=by omega
     simp[h1,h2,KK]
    ·have:(x<c+1)↔(x<c):=by omega
     simp[this,hx]
   cases hb:l[c]
   ·rw[cond_false]
    have:ofB (λx=>decide (x<c+1)&&(l[x]?).getD false)=ofB (λx=>decide (x<c)&&(l[x]?).getD false):=eR λx hx=>by rw[FW x,hb];simp
    rw[this]
   ·rw[cond_true]
    have hw:c / 64<4:=by omega
    have hl6:c % 64<64:=Nat.mod_lt _ (by omega)
    have w1:IntKind.wrap .i64 (Int.tdiv (c:Int) 64)=((c / 64:Nat):Int):=by rw[BZ];exact aL (by omega)
    have w2:IntKind.wrap .u64 (Int.tmod (c:Int) 64)=((c % 64:Nat):Int):=by rw[B0];exact wrap_u64 (by omega)
    have n1:¬((64:Int)=0):=by omega
    have n2:¬(((c % 64:Nat):Int)<0):=by omega
    have n3:(0:Int)<=((c / 64:Nat):Int):=by omega
    have g:(ofB (λx=>decide (x<c)&&(l[x]?).getD false))[((c / 64:Nat):Int).toNat]?=some ((aI (λx=>decide (x<c)&&(l[x]?).getD false) (c / 64):Nat):Int):=by rw[Int.toNat_natCast];exact fB hw
    rw[if_neg n1,if_neg n1,w1,if_pos n3,g]
    simp only[if_neg n1,w2,if_neg n2,if_pos n3,g,qL hl6]
    have hab:=EO (f:=λx=>decide (x<c)&&(l[x]?).getD false) (c:=c) (λx hx=>by
     have:¬x<c:=by omega
     simp[this])
    have hlt:=bT (λx=>(decide (x<c)&&(l[x]?).getD false)||decide (x=c)) (c / 64)
    have w4:IntKind.wrap .u64 (((aI (λx=>decide (x<c)&&(l[x]?).getD false) (c / 64):Nat):Int)+((2 ^ (c % 64):Nat):Int))=((aI (λx=>(decide (x<c)&&(l[x]?).getD false)||decide (x=c)) (c / 64):Nat):Int):=by
     rw[<-hab,<-Int.natCast_add]
     exact wrap_u64 (by rw[hab];exact hlt)
    rw[w4,Int.toNat_natCast]
    have a9:(ofB (λx=>decide (x<c)&&(l[x]?).getD false)).set (c / 64) ((aI (λx=>(decide (x<c)&&(l[x]?).getD false)||decide (x=c)) (c / 64):Nat):Int)=ofB (λx=>(decide (x<c)&&(l[x]?).getD false)||decide (x=c)):=
     qK hw rfl (λv j hv hne hj=>by
      have:¬(64*v+j=c):=by omega
      simp[this])
    rw[a9]
    have:ofB (λx=>decide (x<c+1)&&(l[x]?).getD false)=ofB (λx=>(decide (x<c)&&(l[x]?).getD false)||decide (x=c)):=eR λx hx=>by rw[FW x,hb];simp
    rw[this]
  ·dsimp only
   rw[w3]
   exact hk (m-1) _ _ (by omega) ⟨c+1,rfl,by omega,rfl⟩
 ·have hf:(decide (c<256)&&decide (c<l.length))=false:=by
   rw[Bool.and_eq_false_iff,decide_eq_false_iff_not,decide_eq_false_iff_not]
   omega
  rw[hf,cond_false]
  have:ofB (λx=>decide (x<c)&&(l[x]?).getD false)=ofB (λx=>(l[x]?).getD false):=eR λx hx=>by
   by_cases hxc:x<c
   ·simp[hxc]
   ·have:l[x]?=none:=List.getElem?_eq_none (by omega)
    simp[this]
  rw[this]
theorem lN(f:Nat->Bool):vq N0 (bits f,())=some ((ofB f,()),()):=by
 rw[EP _ (by rw[kO];simp[maxLen])]
 have:ofB (λx=>((bits f)[x]?).getD false)=ofB f:=eR λx hx=>by rw[jo _ hx];rfl
 rw[this]
theorem tJ(f g:Nat->Bool):BD N0 (3,(ofB f,(ofB g,())))=some ((ofB (λx=>!f x),()),()):=by
 unfold BD
 dsimp only
 refine aJ (λm x q=>∃ c:Nat,x=(([0,0,0,0],()),((List.range c).map (λx=>!f x),((c:Int),())))/\m+c=256/\q=some ((ofB (λx=>!f x),()),())) ?_ N0 256 _ _ (by unfold N0;omega) ⟨0,rfl,rfl,rfl⟩
 rintro m x q ⟨c,rfl,hm,rfl⟩ k hk
 dsimp only
 rcases Nat.lt_or_ge c 256 with hc|hc
 ·have w3:IntKind.wrap .i64 ((c:Int)+1)=((c+1:Nat):Int):=by rw[<-aL (n:=c+1) (by omega)];rfl
  rw[decide_eq_true (show(c:Int)<256 by omega),cond_true,aa (xa f hc)]
  dsimp only
  rw[aa (xa g hc)]
  dsimp only
  have f1:(((List.range c).map (λx=>!f x)).length+([!f c]:List Bool).length)*1<=140737488355328:=by simp;omega
  have f2:((List.range c).map (λx=>!f x)).length+([!f c]:List Bool).length<=9223372036854775807:=by simp;omega
  simp only[aY,show decide ((3:Int)=0)=false from rfl,show decide ((3:Int)=1)=false from rfl,show decide ((3:Int)=2)=false from rfl,cond_false]
  rw[if_pos f1,if_pos f2,w3]
  refine hk (m-1) _ _ (by omega) ⟨c+1,?_,by omega,rfl⟩
  rw[List.range_succ,List.map_append]
  rfl
 ·have hc2:c=256:=by omega
  subst hc2
  rw[decide_eq_false (by omega),cond_false]
  exact aa (lN _) _
end
noncomputable section
theorem jq{A R:Type}{P:Option R->Prop}{J:A->Option R}{body:(A->Option R)->Option R}(h:∀ K,(∀ x,K x=J x)->P (body K)):P (aj J body):=h J λ_=>rfl
def OkQ(o:Option (Rx×Nat))(z:Option ((List Pc×(Int×Unit))×Unit)):Prop:=
 match o with
 |some (t,j)=>z=some ((t.post,((j:Int),())),())
 |none=>∃ k:Int,z=some (([],(k,())),())
theorem oa(s:List Int){i:Nat}(hi:i<=s.length):((0:Int)<=(i:Int)/\(i:Int)<=((s.length:Nat):Int)/\((s.length:Nat):Int)<=((s.length:Nat):Int))/\br s (i:Int) ((s.length:Nat):Int)=s.drop i:=by
 refine⟨⟨by omega,by omega,by omega⟩,?_⟩
 unfold br
 simp only[Int.toNat_natCast]
 exact List.take_of_length_le (by simp)
theorem oc{s:List Int}(hs:s.length<=maxLen)(i:Nat):(s.drop i).length<=maxLen:=by rw[List.length_drop];omega
theorem ET{s:List Int}(hb:Bytes s)(hs0:s.length<=1600){i:Nat}(hi:i<=s.length):OkQ (brS s i) (Et N0 (s,((i:Int),()))):=by
 have hs:s.length<=maxLen:=by unfold maxLen;omega
 rw[n6]
 unfold Et
 dsimp only
 rw[if_pos (show(0:Int)<=256/\(256:Int)<=256 by omega),if_pos (show((256:Int)).toNat*1<=140737488355328 by decide),po]
 refine bW (P:=OkQ _) ((bits (λ_=>false),()),(cH s i 94,())) (λK=>?_) ?_
 ·unfold cH
  rcases Nat.lt_or_ge i s.length with h|h
  ·have n0:(0:Int)<=(i:Int):=by omega
   rw[decide_eq_true (show(i:Int)<((s.length:Nat):Int) by omega),cond_true,if_pos n0,Int.toNat_natCast,eu h,decide_eq_true h,Bool.true_and]
  ·rw[decide_eq_false (show ¬(i:Int)<((s.length:Nat):Int) by omega),cond_false,decide_eq_false (show ¬i<s.length by omega),Bool.false_and]
 dsimp only
 generalize hnt:cH s i 94=nt
 have hlt:nt=true->i<s.length:=λh=>by
  rw[<-hnt]at h
  unfold cH at h
  simp at h
  exact h.1
 have hi1:(if nt=true then i+1 else i)<=s.length:=by
  split
  ·rename_i h;exact hlt h
  ·exact hi
 refine bW (P:=OkQ _) ((bits (λ_=>false),()),(((if nt=true then i+1 else i:Nat):Int),())) (λK=>?_) ?_
 ·cases nt
  ·rfl
  ·rw[cond_true,if_pos rfl,aE (hlt rfl) hs]
 dsimp only
 generalize (if nt=true then i+1 else i)=i1 at hi1 |-
 generalize aZ:brL s s.length.succ i1 (λ_=>false)=res
 refine bL (λm x=>∃ (i:Nat) (f:Nat->Bool) (aP:Nat),x=((bits f,()),((i:Int),()))/\i<=s.length/\s.length-i<aP/\m=s.length-i/\brL s aP i f=res) (OkQ (iF s nt res)) ?_ N0 (s.length-i1) _ (by have:=gO hs;omega) ⟨i1,_,s.length.succ,rfl,hi1,by omega,rfl,aZ⟩
 rintro m x ⟨i,f,aP,rfl,hi,hf,hm,hr⟩ k hk
 obtain⟨aP,rfl⟩:∃ q,aP=q+1:=⟨aP-1,by omega⟩
 simp only[brL]at hr
 dsimp only
 have n0:(0:Int)<=(i:Int):=by omega
 refine bW (P:=OkQ _) ((bits f,()),(decide (¬(s.length<=i\/ch s i=93)),())) (λK=>?_) ?_
 ·rcases Nat.lt_or_ge i s.length with h|h
  ·have e:decide (¬(s.length<=i\/ch s i=93))=!decide (ch s i=93):=by
    have:¬s.length<=i:=by omega
    simp[this]
   rw[decide_eq_true (show(i:Int)<((s.length:Nat):Int) by omega),cond_true,if_pos n0,Int.toNat_natCast,eu h,e]
  ·have e:decide (¬(s.length<=i\/ch s i=93))=false:=by simp[h]
   rw[decide_eq_false (show ¬(i:Int)<((s.length:Nat):Int) by omega),cond_false,e]
 dsimp only
 by_cases ir:s.length<=i\/ch s i=93
 ·-- the end
  rw[if_pos ir]at hr
  rw[decide_eq_false (λh=>h ir),cond_false,aa (lN f)]
  dsimp only
  subst hr
  unfold iF
  dsimp only
  generalize hg:(if nt=true then λx=>!f x else f)=g
  refine bW (P:=OkQ _) ((ofB g,()),()) (λK=>?_) ?_
  ·cases nt
   ·rw[cond_false]
    have:f=g:=hg
    rw[this]
   ·rw[cond_true,aa (tJ f f)]
    have:(λx=>!f x)=g:=hg
    rw[this]
  dsimp only
  refine bW (P:=OkQ _) ((ofB g,()),(decide (s.length<=i\/bZ g=true),())) (λK=>?_) ?_
  ·rcases Nat.lt_or_ge i s.length with h|h
   ·have e:decide (s.length<=i\/bZ g=true)=decide (ofB g=[0,0,0,0]):=by
     have:¬s.length<=i:=by omega
     rw[decide_eq_decide,show([0,0,0,0]:List Int)=zS by rfl,et]
     simp[this]
    rw[decide_eq_false (show ¬((s.length:Nat):Int)<=(i:Int) by omega),cond_false,e]
   ·rw[decide_eq_true (show((s.length:Nat):Int)<=(i:Int) by omega),cond_true,decide_eq_true (.inl h)]
  dsimp only
  by_cases hem:s.length<=i\/bZ g=true
  ·rw[if_pos hem,decide_eq_true hem,cond_true]
   exact⟨_,rfl⟩
  ·rw[if_neg hem,decide_eq_false hem,cond_false,aE (show i<s.length by omega) hs]
   rfl
 ·rw[if_neg ir]at hr
  have hlt:i<s.length:=by omega
  obtain⟨hc,n5⟩:=oa s hi
  rw[decide_eq_true ir,cond_true,if_pos hc,n5,aa (qQ (hb.drop i) (oc hs i))]
  dsimp only
  cases hrd:rdS (s.drop i)with
  |none=>
   have:res=none:=by
    rw[hrd]at hr
    split at hr
    ·exact hr.symm
    ·exact hr.symm
   subst this
   exact⟨_,rfl⟩
  |some p=>
   obtain⟨a,n⟩:=p
   rw[hrd]at hr
   obtain⟨ha,hn1,hn2⟩:=fW (hb.drop i) hrd
   rw[List.length_drop]at hn2
   dsimp only[rdR]
   dsimp only at hr
   refine bW (P:=OkQ _) ((bits f,()),(decide (ch s i∈([94,45,47,34]:List Int)),())) (λK=>?_) ?_
   ·rw[Bool.not_true,cond_false,if_pos n0,Int.toNat_natCast,eu hlt]
    dsimp only
    rw[aa (kN _ (by simp[maxLen]) _)]
   dsimp only
   by_cases hin:ch s i∈([94,45,47,34]:List Int)
   ·rw[if_pos hin]at hr
    rw[decide_eq_true hin,cond_true]
    subst hr
    exact⟨_,rfl⟩
   rw[if_neg hin]at hr
   rw[decide_eq_false hin,cond_false]
   have w1:IntKind.wrap .i64 ((i:Int)+(n:Int))=((i+n:Nat):Int):=by
    rw[<-aL (n:=i+n) (by omega)];rfl
   have w2:IntKind.wrap .i64 (((i+n:Nat):Int)+1)=((i+n+1:Nat):Int):=by
    rw[<-aL (n:=i+n+1) (by omega)];rfl
   simp only[w1]
   refine bW (P:=OkQ _) ((bits f,()),(cH s (i+n) 45,())) (λK=>?_) ?_
   ·unfold cH
    rcases Nat.lt_or_ge (i+n) s.length with h|h
    ·have n0:(0:Int)<=((i+n:Nat):Int):=by omega
     rw[decide_eq_true (show((i+n:Nat):Int)<((s.length:Nat):Int) by omega),cond_true,if_pos n0,Int.toNat_natCast,eu h,decide_eq_true h,Bool.true_and]
    ·rw[decide_eq_false (show ¬((i+n:Nat):Int)<((s.length:Nat):Int) by omega),cond_false,decide_eq_false (show ¬i+n<s.length by omega),Bool.false_and]
   dsimp only
   simp only[w2]
   refine jq (P:=OkQ _) λK hK=>?_
   -- C5 goes on with a range
   have go:∀ (j:Nat) (b:Int),j<=s.length->i<j->(0<=b/\b<=255)->brL s aP j (λx=>f x||nY a b x)=res->
    OkQ (iF s nt res) (K ((bits f,()),((j:Int),(b,())))):=by
    intro j b hj hij hbb aZ
    rw[hK]
    dsimp only
    have wa:IntKind.wrap .i64 a=a:=bc (by omega) (by omega)
    have wb:IntKind.wrap .i64 b=b:=bc (by omega) (by omega)
    rw[wa,wb]
    have e0:bits f=bits (λx=>f x||(decide (a<=(x:Int))&&decide ((x:Int)<((a.toNat:Nat):Int)))):=n9 λx hx=>by
     rw[Int.toNat_of_nonneg ha.1]
     by_cases h:a<=(x:Int)
     ·have:¬(x:Int)<a:=by omega
      simp[this]
     ·simp[h]
    refine bL (λm x=>∃ c:Nat,x=((bits (λx=>f x||(decide (a<=(x:Int))&&decide ((x:Int)<(c:Int)))),()),((c:Int),()))/\m+c=256/\a<=(c:Int)/\(a<=b->(c:Int)<=b+1)/\(b<a->(c:Int)=a)) (OkQ (iF s nt res)) ?_ N0 (256-a.toNat) _ (by unfold N0;omega) ⟨a.toNat,by rw[<-e0,Int.toNat_of_nonneg ha.1],by omega,by omega,by omega,by omega⟩
    rintro m x ⟨c,rfl,hm,h1,h2,h3⟩ k2 hk2
    dsimp only
    by_cases hcb:(c:Int)<=b
    ·have hc:c<256:=by omega
     have n1:(0:Int)<=(c:Int):=by omega
     have w3:IntKind.wrap .i64 ((c:Int)+1)=((c+1:Nat):Int):=by rw[<-aL (n:=c+1) (by omega)];rfl
     rw[decide_eq_true hcb,cond_true,if_pos n1,Int.toNat_natCast,jo _ hc]
     dsimp only
     rw[if_pos n1]
     rw[tI _ hc,w3]
     refine hk2 (m-1) _ (by omega) ⟨c+1,?_,by omega,by omega,by omega,by omega⟩
     have:bits (λx=>(f x||(decide (a<=(x:Int))&&decide ((x:Int)<(c:Int))))||decide (x=c))=bits (λx=>f x||(decide (a<=(x:Int))&&decide ((x:Int)<((c+1:Nat):Int)))):=n9 λx hx=>by
      have e3:decide ((x:Int)<((c+1:Nat):Int))=(decide ((x:Int)<(c:Int))||decide (x=c)):=by rw[<-Bool.decide_or,decide_eq_decide];omega
      rw[e3]
      by_cases hax:a<=(x:Int)
      ·simp[hax,Bool.or_assoc]
      ·have:¬x=c:=by omega
       simp[hax,this]
     rw[this]
    ·rw[decide_eq_false hcb,cond_false]
     refine hk (s.length-j) _ (by omega) ⟨j,_,aP,?_,hj,by omega,rfl,aZ⟩
     have:bits (λx=>f x||(decide (a<=(x:Int))&&decide ((x:Int)<(c:Int))))=bits (λx=>f x||nY a b x):=n9 λx hx=>by
      unfold nY
      rcases Int.lt_or_le b a with hl|hl
      ·have e:=h3 hl
       by_cases hax:a<=(x:Int)
       ·have q1:¬((x:Int)<=b):=by omega
        have q2:¬((x:Int)<(c:Int)):=by omega
        simp[q1,q2]
       ·simp[hax]
      ·have e:=h2 hl
       have:((x:Int)<(c:Int))↔((x:Int)<=b):=by omega
       simp[this]
     rw[this]
   clear hK
   by_cases hd:i+n<s.length/\ch s (i+n)=45
   ·rw[if_pos hd]at hr
    have he:cH s (i+n) 45=true:=by unfold cH;simp[hd.1,hd.2]
    rw[he,cond_true]
    refine bW (P:=OkQ _) ((bits f,()),(decide (s.length<=i+n+1\/ch s (i+n+1)∈([93,94,45,47,34]:List Int)),())) (λK=>?_) ?_
    ·rcases Nat.lt_or_ge (i+n+1) s.length with h|h
     ·have n0:(0:Int)<=((i+n+1:Nat):Int):=by omega
      rw[decide_eq_false (show ¬((s.length:Nat):Int)<=((i+n+1:Nat):Int) by omega),cond_false,if_pos n0,Int.toNat_natCast,eu h]
      dsimp only
      rw[aa (kN _ (by simp[maxLen]) _)]
      have e:decide (s.length<=i+n+1\/ch s (i+n+1)∈([93,94,45,47,34]:List Int))=decide (ch s (i+n+1)∈([93,94,45,47,34]:List Int)):=by
       have:¬s.length<=i+n+1:=by omega
       rw[decide_eq_decide];exact⟨λh=>h.resolve_left this,.inr⟩
      rw[e]
     ·rw[decide_eq_true (show((s.length:Nat):Int)<=((i+n+1:Nat):Int) by omega),cond_true,decide_eq_true (.inl h)]
    dsimp only
    by_cases h4:s.length<=i+n+1\/ch s (i+n+1)∈([93,94,45,47,34]:List Int)
    ·rw[if_pos h4]at hr
     rw[decide_eq_true h4,cond_true]
     subst hr
     exact⟨_,rfl⟩
    rw[if_neg h4]at hr
    obtain⟨hc2,tH⟩:=oa s (show i+n+1<=s.length by omega)
    rw[decide_eq_false h4,cond_false,if_pos hc2,tH,aa (qQ (hb.drop _) (oc hs _))]
    dsimp only
    cases tE:rdS (s.drop (i+n+1))with
    |none=>
     rw[tE]at hr
     dsimp only at hr
     subst hr
     exact⟨_,rfl⟩
    |some p2=>
     obtain⟨b,n2⟩:=p2
     rw[tE]at hr
     dsimp only at hr
     dsimp only[rdR]
     obtain⟨hbb,hn3,hn4⟩:=fW (hb.drop _) tE
     rw[List.length_drop]at hn4
     have w3:IntKind.wrap .i64 (((i+n+1:Nat):Int)+(n2:Int))=((i+n+1+n2:Nat):Int):=by
      rw[<-aL (n:=i+n+1+n2) (by omega)];rfl
     simp only[w3]
     refine bW (P:=OkQ _) ((bits f,()),(decide (b<a),())) (λK=>?_) ?_
     ·rw[Bool.not_true,cond_false]
      rfl
     dsimp only
     by_cases hba:b<a
     ·rw[if_pos hba]at hr
      rw[decide_eq_true hba,cond_true]
      subst hr
      exact⟨_,rfl⟩
     ·rw[if_neg hba]at hr
      rw[decide_eq_false hba,cond_false]
      exact go (i+n+1+n2) b (by omega) (by omega) hbb hr
   ·rw[if_neg hd]at hr
    have he:cH s (i+n) 45=false:=by
     unfold cH
     rw[Bool.and_eq_false_iff,decide_eq_false_iff_not,decide_eq_false_iff_not]
     by_cases h:i+n<s.length
     ·exact .inr λh2=>hd ⟨h,h2⟩
     ·exact .inl h
    rw[he,cond_false]
    exact go (i+n) a (by omega) (by omega) ha hr
end
noncomputable section
abbrev RfF:=(List Int×(Int×(Int×Unit)))->Option ((List Pc×(Int×Unit))×Unit)
theorem eS(t:Rx):List.isEmpty t.post=false:=by
 have h1:=t.az
 have h2:=t.aN
 cases hp:t.post with
 |nil=>rw[hp]at h1;simp at h1;omega
 |cons a b=>rfl
theorem EU{i n:Nat}(h:i+n<9223372036854775808):IntKind.wrap .i64 ((i:Int)+(n:Int))=((i+n:Nat):Int):=by rw[<-aL h];rfl
theorem bf{i:Nat}(h:i+1<9223372036854775808):IntKind.wrap .i64 ((i:Int)+1)=((i+1:Nat):Int):=by rw[<-aL h];rfl
theorem EV{s:List Int}(hb:Bytes s)(hs:s.length<=1600){q2 q3 q4 q5:RfF}{inner:Nat->Nat->Option (Rx×Nat)}{i d:Nat}(hd:d<=i)
 (hin:i<s.length->OkQ (inner (i+1) (d+1)) (q2 (s,(((i+1:Nat):Int),(((d+1:Nat):Int),()))))) (aZ:gb s (i+1) (inner (i+1) (d+1))):
 OkQ (gR inner s i d) (tp N0 q2 q3 q4 q5 (s,((i:Int),((d:Int),())))):=by
 have hsm:s.length<=maxLen:=by unfold maxLen;omega
 unfold tp gR
 dsimp only
 have n0:(0:Int)<=(i:Int):=by omega
 refine bW (P:=OkQ _) ((),(decide (s.length<=i\/ch s i∈([124,41,42,43,63,93,47,34]:List Int)),())) (λK=>?_) ?_
 ·rcases Nat.lt_or_ge i s.length with h|h
  ·rw[decide_eq_false (show ¬((s.length:Nat):Int)<=(i:Int) by omega),cond_false,if_pos n0,Int.toNat_natCast,eu h]
   dsimp only
   rw[aa (kN _ (by simp[maxLen]) _)]
   have e:decide (s.length<=i\/ch s i∈([124,41,42,43,63,93,47,34]:List Int))=decide (ch s i∈([124,41,42,43,63,93,47,34]:List Int)):=by
    have:¬s.length<=i:=by omega
    rw[decide_eq_decide];exact⟨λh=>h.resolve_left this,.inr⟩
   rw[e]
  ·rw[decide_eq_true (show((s.length:Nat):Int)<=(i:Int) by omega),cond_true,decide_eq_true (.inl h)]
 dsimp only
 by_cases ir:s.length<=i\/ch s i∈([124,41,42,43,63,93,47,34]:List Int)
 ·rw[if_pos ir,decide_eq_true ir,cond_true]
  exact⟨_,rfl⟩
 rw[if_neg ir,decide_eq_false ir,cond_false]
 have hlt:i<s.length:=by omega
 have w1:IntKind.wrap .i64 ((i:Int)+1)=((i+1:Nat):Int):=bf (by omega)
 simp only[if_pos n0,Int.toNat_natCast,eu hlt,w1]
 have hz:([0,0,0,0]:List Int)=ofB (λ_=>false):=by
  rw[show([0,0,0,0]:List Int)=zS by rfl]
  exact(et.2 (by unfold bZ;rw[List.all_eq_true];intro x _;rfl)).symm
 by_cases h46:ch s i=46
 ·rw[decide_eq_true h46,cond_true,if_pos h46,hz,aa (tJ _ _)]
  rfl
 rw[decide_eq_false h46,cond_false,if_neg h46]
 by_cases h126:ch s i=126
 ·rw[decide_eq_true h126,cond_true,if_pos h126]
  rfl
 rw[decide_eq_false h126,cond_false,if_neg h126]
 by_cases h91:ch s i=91
 ·rw[decide_eq_true h91,cond_true,if_pos h91]
  have hq:=ET hb hs (show i+1<=s.length by omega)
  unfold OkQ at hq
  cases ho:brS s (i+1)with
  |none=>
   rw[ho]at hq
   obtain⟨k,hq⟩:=hq
   rw[aa hq]
   exact⟨_,rfl⟩
  |some p=>
   obtain⟨t,j⟩:=p
   rw[ho]at hq
   dsimp only at hq
   rw[aa hq]
   rfl
 rw[decide_eq_false h91,cond_false,if_neg h91]
 by_cases h40:ch s i=40
 ·rw[decide_eq_true h40,cond_true,if_pos h40]
  by_cases h99:99<=d
  ·rw[if_pos h99,decide_eq_true (show(99:Int)<=(d:Int) by omega),cond_true]
   exact⟨_,rfl⟩
  rw[if_neg h99,decide_eq_false (show ¬(99:Int)<=(d:Int) by omega),cond_false]
  have wd:IntKind.wrap .i64 ((d:Int)+1)=((d+1:Nat):Int):=bf (by omega)
  rw[wd]
  have hq:=hin hlt
  unfold OkQ at hq
  cases ho:inner (i+1) (d+1)with
  |none=>
   rw[ho]at hq
   obtain⟨k,hq⟩:=hq
   rw[aa hq]
   exact⟨_,rfl⟩
  |some p=>
   obtain⟨t,j⟩:=p
   rw[ho]at hq
   dsimp only at hq
   obtain⟨r1,r2,r3,r4⟩:=aZ t j ho
   rw[aa hq]
   dsimp only
   refine bW (P:=OkQ _) ((),(decide (¬(j<s.length/\ch s j=41)),())) (λK=>?_) ?_
   ·rw[eS t,cond_false]
    rcases Nat.lt_or_ge j s.length with h|h
    ·have n1:(0:Int)<=(j:Int):=by omega
     have e:decide (¬(j<s.length/\ch s j=41))=!decide (ch s j=41):=by simp[h]
     rw[decide_eq_false (show ¬((s.length:Nat):Int)<=(j:Int) by omega),cond_false,if_pos n1,Int.toNat_natCast,eu h,e]
    ·have e:decide (¬(j<s.length/\ch s j=41))=true:=by simp;omega
     rw[decide_eq_true (show((s.length:Nat):Int)<=(j:Int) by omega),cond_true,e]
   dsimp only
   by_cases hj:j<s.length/\ch s j=41
   ·rw[if_pos hj,decide_eq_false (λh=>h hj),cond_false,bf (by omega)]
    rfl
   ·rw[if_neg hj,decide_eq_true hj,cond_true]
    exact⟨_,rfl⟩
 rw[decide_eq_false h40,cond_false,if_neg h40]
 obtain⟨hc,n5⟩:=oa s (show i<=s.length by omega)
 rw[if_pos hc,n5,aa (qQ (hb.drop i) (oc hsm i))]
 dsimp only
 cases hrd:rdS (s.drop i)with
 |none=>exact⟨_,rfl⟩
 |some p=>
  obtain⟨c,n⟩:=p
  obtain⟨hcb,hn1,hn2⟩:=fW (hb.drop i) hrd
  rw[List.length_drop]at hn2
  dsimp only[rdR]
  obtain⟨c,rfl⟩:∃ q:Nat,c=(q:Int):=⟨c.toNat,by omega⟩
  have n1:(0:Int)<=(c:Int):=by omega
  have FX:c<256:=by omega
  rw[Bool.not_true,cond_false,if_pos (show(0:Int)<=256/\(256:Int)<=256 by omega),if_pos (show((256:Int)).toNat*1<=140737488355328 by decide)]
  simp only[if_pos n1,po,Int.toNat_natCast,jo _ FX,tI _ FX]
  rw[aa (lN _)]
  simp only[EU (show i+n<9223372036854775808 by omega)]
  have e:ofB (λx=>false||decide (x=c))=ofB (lI (c:Int)):=eR λx hx=>by
   unfold lI
   rw[Bool.false_or,decide_eq_decide];omega
  rw[e]
  rfl
theorem vD{s:List Int}(hb:Bytes s)(hs:s.length<=1600){q2 q3 q4 q5:RfF}{inner:Nat->Nat->Option (Rx×Nat)}{i d:Nat}
 (b9:OkQ (gR inner s i d) (q5 (s,((i:Int),((d:Int),()))))) (aZ:gb s i (gR inner s i d)):
 OkQ (fV inner s i d) (tk N0 q2 q3 q4 q5 (s,((i:Int),((d:Int),())))):=by
 have hsm:s.length<=maxLen:=by unfold maxLen;omega
 unfold tk
 dsimp only
 unfold fV
 unfold OkQ at b9
 cases ho:gR inner s i d with
 |none=>
  rw[ho]at b9
  obtain⟨k0,hq⟩:=b9
  rw[aa hq]
  refine bL (λm x=>x=((),(k0,([],())))) (OkQ none) ?_ N0 0 _ (by unfold N0;omega) rfl
  rintro m x rfl k hk
  exact⟨_,rfl⟩
 |some p=>
  obtain⟨t0,j0⟩:=p
  rw[ho]at b9
  dsimp only at b9
  have hr0:=aZ t0 j0 ho
  rw[aa b9]
  dsimp only
  generalize hrs:kc s s.length.succ j0 t0=res
  refine bL (λm x=>∃ (j:Nat) (t:Rx) (aP:Nat),x=((),((j:Int),(t.post,())))/\Res s i t j/\s.length-j<aP/\m=s.length-j/\kc s aP j t=res) (OkQ res) ?_ N0 (s.length-j0) _ (by unfold N0;omega) ⟨j0,t0,_,rfl,hr0,by omega,rfl,hrs⟩
  rintro m x ⟨j,t,aP,rfl,hr,hf,hm,hl⟩ k hk
  obtain⟨aP,rfl⟩:∃ q,aP=q+1:=⟨aP-1,by omega⟩
  simp only[kc]at hl
  dsimp only
  have n1:(0:Int)<=(j:Int):=by omega
  refine bW (P:=OkQ _) ((),(decide (j<s.length/\ch s j∈([42,43,63]:List Int)),())) (λK=>?_) ?_
  ·rw[eS t,Bool.not_false,cond_true]
   rcases Nat.lt_or_ge j s.length with h|h
   ·rw[decide_eq_true (show(j:Int)<((s.length:Nat):Int) by omega),cond_true,if_pos n1,Int.toNat_natCast,eu h]
    dsimp only
    rw[aa (kN _ (by simp[maxLen]) _)]
    have e:decide (j<s.length/\ch s j∈([42,43,63]:List Int))=decide (ch s j∈([42,43,63]:List Int)):=by
     rw[decide_eq_decide];exact⟨λh=>h.2,λh2=>⟨h,h2⟩⟩
    rw[e]
   ·have e:decide (j<s.length/\ch s j∈([42,43,63]:List Int))=false:=decide_eq_false (λh2=>by omega)
    rw[decide_eq_false (show ¬(j:Int)<((s.length:Nat):Int) by omega),cond_false,e]
  dsimp only
  by_cases hc:j<s.length/\ch s j∈([42,43,63]:List Int)
  ·rw[if_pos hc]at hl
   obtain⟨g1,g2,g3,g4⟩:=hr
   have tl:=t.az
   rw[decide_eq_true hc,cond_true,if_pos n1,Int.toNat_natCast,eu hc.1]
   dsimp only
   refine bW (P:=OkQ _) ((),((if ch s j=43 then 5 else 4),())) (λK=>?_) ?_
   ·by_cases h:ch s j=43
    ·rw[decide_eq_true h,cond_true,if_pos h]
    ·rw[decide_eq_false h,cond_false,if_neg h]
   dsimp only
   rw[if_pos n1]
   refine bW (P:=OkQ _) ((),(eJ (ch s j),())) (λK=>?_) ?_
   ·unfold eJ
    by_cases h:ch s j=63
    ·rw[decide_eq_true h,cond_true,h];rfl
    ·rw[decide_eq_false h,cond_false]
     have h3:ch s j=42\/ch s j=43:=by
      have:=hc.2
      simp[h]at this
      exact this
     rcases h3 with h3|h3 <;> rw[h3] <;> rfl
   dsimp only
   have c1:(([]:List Pc).length+t.post.length)*40<=140737488355328:=by simp;omega
   have c2:([]:List Pc).length+t.post.length<=9223372036854775807:=by simp;omega
   have c3:((([]:List Pc)++t.post).length+([(eJ (ch s j),[0,0,0,0])]:List Pc).length)*40<=140737488355328:=by simp;omega
   have c4:(([]:List Pc)++t.post).length+([(eJ (ch s j),[0,0,0,0])]:List Pc).length<=9223372036854775807:=by simp;omega
   have e:([]:List Pc)++t.post++[(eJ (ch s j),[0,0,0,0])]=(Rx.rep (eJ (ch s j)) t).post:=rfl
   rw[if_pos c1,if_pos c2,if_pos c3,if_pos c4,e,eS,cond_false,bf (by omega)]
   exact hk (s.length-(j+1)) _ (by omega) ⟨j+1,_,aP,rfl,⟨by omega,by omega,by simp only[Rx.len];omega,lK _,g4⟩,by omega,rfl,hl⟩
  ·rw[if_neg hc]at hl
   rw[decide_eq_false hc,cond_false]
   subst hl
   rfl
end
noncomputable section
theorem EW{s:List Int}(hb:Bytes s)(hs:s.length<=1600){q2 q3 q4 q5:RfF}{inner:Nat->Nat->Option (Rx×Nat)}{i d:Nat}(hi:i<=s.length)
 (aK:∀ j,i<=j->j<=s.length->OkQ (fV inner s j d) (q4 (s,((j:Int),((d:Int),()))))) (aZ:∀ j,i<=j->gb s j (fV inner s j d)):
 OkQ (ga inner s i d) (tj N0 q2 q3 q4 q5 (s,((i:Int),((d:Int),())))):=by
 have hsm:s.length<=maxLen:=by unfold maxLen;omega
 unfold tj
 dsimp only
 unfold ga
 have b9:=aK i (Nat.le_refl _) hi
 unfold OkQ at b9
 cases ho:fV inner s i d with
 |none=>
  rw[ho]at b9
  obtain⟨k0,hq⟩:=b9
  rw[aa hq]
  refine bL (λm x=>x=((),(k0,([],())))) (OkQ none) ?_ N0 0 _ (by unfold N0;omega) rfl
  rintro m x rfl k hk
  exact⟨_,rfl⟩
 |some p=>
  obtain⟨t0,j0⟩:=p
  rw[ho]at b9
  dsimp only at b9
  have hr0:=aZ i (Nat.le_refl _) t0 j0 ho
  rw[aa b9]
  dsimp only
  generalize hrs:kH inner s d s.length.succ j0 t0=res
  refine bL (λm x=>∃ (j:Nat) (t:Rx) (aP:Nat),x=((),((j:Int),(t.post,())))/\Res s i t j/\s.length-j<aP/\m=s.length-j/\kH inner s d aP j t=res) (OkQ res) ?_ N0 (s.length-j0) _ (by unfold N0;omega) ⟨j0,t0,_,rfl,hr0,by omega,rfl,hrs⟩
  rintro m x ⟨j,t,aP,rfl,hr,hf,hm,hl⟩ k hk
  obtain⟨aP,rfl⟩:∃ q,aP=q+1:=⟨aP-1,by omega⟩
  simp only[kH]at hl
  dsimp only
  have n1:(0:Int)<=(j:Int):=by omega
  refine bW (P:=OkQ _) ((),(decide (j<s.length/\ch s j∉([124,41]:List Int)),())) (λK=>?_) ?_
  ·rw[eS t,Bool.not_false,cond_true]
   rcases Nat.lt_or_ge j s.length with h|h
   ·rw[decide_eq_true (show(j:Int)<((s.length:Nat):Int) by omega),cond_true,if_pos n1,Int.toNat_natCast,eu h]
    dsimp only
    rw[aa (kN _ (by simp[maxLen]) _)]
    have e:decide (j<s.length/\ch s j∉([124,41]:List Int))=!decide (ch s j∈([124,41]:List Int)):=by
     rw[<-decide_not,decide_eq_decide];exact⟨λh=>h.2,λh2=>⟨h,h2⟩⟩
    rw[e]
   ·have e:decide (j<s.length/\ch s j∉([124,41]:List Int))=false:=decide_eq_false (λh2=>by omega)
    rw[decide_eq_false (show ¬(j:Int)<((s.length:Nat):Int) by omega),cond_false,e]
  dsimp only
  by_cases hc:j<s.length/\ch s j∉([124,41]:List Int)
  ·rw[if_pos hc]at hl
   obtain⟨g1,g2,g3,g4⟩:=hr
   have tl:=t.az
   rw[decide_eq_true hc,cond_true]
   have hq:=aK j (by omega) (by omega)
   unfold OkQ at hq
   cases h2:fV inner s j d with
   |none=>
    rw[h2]at hq hl
    obtain⟨k0,hq⟩:=hq
    rw[aa hq]
    subst hl
    exact⟨_,rfl⟩
   |some p=>
    obtain⟨t2,j2⟩:=p
    rw[h2]at hq hl
    dsimp only at hq hl
    obtain⟨f1,f2,f3,f4⟩:=aZ j (by omega) t2 j2 h2
    have tl2:=t2.az
    rw[aa hq]
    dsimp only
    have c1:(([]:List Pc).length+t.post.length)*40<=140737488355328:=by simp;omega
    have c2:([]:List Pc).length+t.post.length<=9223372036854775807:=by simp;omega
    have c3:((([]:List Pc)++t.post).length+t2.post.length)*40<=140737488355328:=by simp;omega
    have c4:(([]:List Pc)++t.post).length+t2.post.length<=9223372036854775807:=by simp;omega
    have c5:((([]:List Pc)++t.post++t2.post).length+([(2,[0,0,0,0])]:List Pc).length)*40<=140737488355328:=by simp;omega
    have c6:(([]:List Pc)++t.post++t2.post).length+([(2,[0,0,0,0])]:List Pc).length<=9223372036854775807:=by simp;omega
    have e:([]:List Pc)++t.post++t2.post++[(2,[0,0,0,0])]=(Rx.cat t t2).post:=rfl
    rw[eS t2,cond_false,if_pos c1,if_pos c2,if_pos c3,if_pos c4,if_pos c5,if_pos c6,e,eS,cond_false]
    exact hk (s.length-j2) _ (by omega) ⟨j2,.cat t t2,aP,rfl,⟨by omega,by omega,by simp only[Rx.len];omega,g4,f4⟩,by omega,rfl,hl⟩
  ·rw[if_neg hc]at hl
   rw[decide_eq_false hc,cond_false]
   subst hl
   rfl
theorem vE{s:List Int}(hb:Bytes s)(hs:s.length<=1600){q2 q3 q4 q5:RfF}{inner:Nat->Nat->Option (Rx×Nat)}{i d:Nat}(hi:i<=s.length)
 (qP:∀ j,i<=j->j<=s.length->OkQ (ga inner s j d) (q3 (s,((j:Int),((d:Int),()))))) (aZ:∀ j,i<=j->gb s j (ga inner s j d)):
 OkQ (tC inner s i d) (th N0 q2 q3 q4 q5 (s,((i:Int),((d:Int),())))):=by
 have hsm:s.length<=maxLen:=by unfold maxLen;omega
 unfold th
 dsimp only
 unfold tC
 have b9:=qP i (Nat.le_refl _) hi
 unfold OkQ at b9
 cases ho:ga inner s i d with
 |none=>
  rw[ho]at b9
  obtain⟨k0,hq⟩:=b9
  rw[aa hq]
  refine bL (λm x=>x=((),(k0,([],())))) (OkQ none) ?_ N0 0 _ (by unfold N0;omega) rfl
  rintro m x rfl k hk
  exact⟨_,rfl⟩
 |some p=>
  obtain⟨t0,j0⟩:=p
  rw[ho]at b9
  dsimp only at b9
  have hr0:=aZ i (Nat.le_refl _) t0 j0 ho
  rw[aa b9]
  dsimp only
  generalize hrs:kI inner s d s.length.succ j0 t0=res
  refine bL (λm x=>∃ (j:Nat) (t:Rx) (aP:Nat),x=((),((j:Int),(t.post,())))/\Res s i t j/\s.length-j<aP/\m=s.length-j/\kI inner s d aP j t=res) (OkQ res) ?_ N0 (s.length-j0) _ (by unfold N0;omega) ⟨j0,t0,_,rfl,hr0,by omega,rfl,hrs⟩
  rintro m x ⟨j,t,aP,rfl,hr,hf,hm,hl⟩ k hk
  obtain⟨aP,rfl⟩:∃ q,aP=q+1:=⟨aP-1,by omega⟩
  simp only[kI]at hl
  dsimp only
  have n1:(0:Int)<=(j:Int):=by omega
  refine bW (P:=OkQ _) ((),(decide (j<s.length/\ch s j=124),())) (λK=>?_) ?_
  ·rw[eS t,Bool.not_false,cond_true]
   rcases Nat.lt_or_ge j s.length with h|h
   ·rw[decide_eq_true (show(j:Int)<((s.length:Nat):Int) by omega),cond_true,if_pos n1,Int.toNat_natCast,eu h]
    have e:decide (j<s.length/\ch s j=124)=decide (ch s j=124):=by
     rw[decide_eq_decide];exact⟨λh=>h.2,λh2=>⟨h,h2⟩⟩
    rw[e]
   ·have e:decide (j<s.length/\ch s j=124)=false:=decide_eq_false (λh2=>by omega)
    rw[decide_eq_false (show ¬(j:Int)<((s.length:Nat):Int) by omega),cond_false,e]
  dsimp only
  by_cases hc:j<s.length/\ch s j=124
  ·rw[if_pos hc]at hl
   obtain⟨g1,g2,g3,g4⟩:=hr
   have tl:=t.az
   rw[decide_eq_true hc,cond_true,bf (by omega)]
   have hq:=qP (j+1) (by omega) (by omega)
   unfold OkQ at hq
   cases h2:ga inner s (j+1) d with
   |none=>
    rw[h2]at hq hl
    obtain⟨k0,hq⟩:=hq
    rw[aa hq]
    subst hl
    exact⟨_,rfl⟩
   |some p=>
    obtain⟨t2,j2⟩:=p
    rw[h2]at hq hl
    dsimp only at hq hl
    obtain⟨f1,f2,f3,f4⟩:=aZ (j+1) (by omega) t2 j2 h2
    have tl2:=t2.az
    rw[aa hq]
    dsimp only
    have c1:(([]:List Pc).length+t.post.length)*40<=140737488355328:=by simp;omega
    have c2:([]:List Pc).length+t.post.length<=9223372036854775807:=by simp;omega
    have c3:((([]:List Pc)++t.post).length+t2.post.length)*40<=140737488355328:=by simp;omega
    have c4:(([]:List Pc)++t.post).length+t2.post.length<=9223372036854775807:=by simp;omega
    have c5:((([]:List Pc)++t.post++t2.post).length+([(3,[0,0,0,0])]:List Pc).length)*40<=140737488355328:=by simp;omega
    have c6:(([]:List Pc)++t.post++t2.post).length+([(3,[0,0,0,0])]:List Pc).length<=9223372036854775807:=by simp;omega
    have e:([]:List Pc)++t.post++t2.post++[(3,[0,0,0,0])]=(Rx.alt t t2).post:=rfl
    rw[eS t2,cond_false,if_pos c1,if_pos c2,if_pos c3,if_pos c4,if_pos c5,if_pos c6,e,eS,cond_false]
    exact hk (s.length-j2) _ (by omega) ⟨j2,.alt t t2,aP,rfl,⟨by omega,by omega,by simp only[Rx.len];omega,g4,f4⟩,by omega,rfl,hl⟩
  ·rw[if_neg hc]at hl
   rw[decide_eq_false hc,cond_false]
   subst hl
   rfl
theorem EX{s:List Int}(hb:Bytes s)(hs:s.length<=1600):∀ (n D i d:Nat),4*n<=D->s.length-i<n->i<=s.length->d<=i->OkQ (fA s n i d) ((bp N0 D).1 (s,((i:Int),((d:Int),())))):=by
 intro n
 induction n with
 |zero=>intro D i d _ h;omega
 |succ n ih=>
  intro D i d hD hn hi hd
  obtain⟨D,rfl⟩:∃ q,D=q+1+1+1+1:=⟨D-4,by omega⟩
  have aZ:∀ i d,s.length-i<n->gb s i (fA s n i d):=λi d h=>fe hb n i d h
  have zt:∀ j,i<=j->gb s (j+1) (fA s n (j+1) (d+1)):=λj hij t j2 h=>by
   rcases Nat.lt_or_ge j s.length with hlt|hge
   ·exact aZ (j+1) (d+1) (by omega) t j2 h
   ·cases n with
    |zero=>cases h
    |succ n=>exact fe hb (n+1) (j+1) (d+1) (by omega) t j2 h
  have b9:∀ j,i<=j->j<=s.length->OkQ (gR (fA s n) s j d) ((bp N0 (D+1)).2.2.2 (s,((j:Int),((d:Int),())))):=λj hij hj=>
   EV (q2:=(bp N0 (D)).1) (q3:=(bp N0 (D)).2.1) (q4:=(bp N0 (D)).2.2.1) (q5:=(bp N0 (D)).2.2.2) hb hs (Nat.le_trans hd hij) (λhlt=>ih D (j+1) (d+1) (by omega) (by omega) (by omega) (by omega)) (zt j hij)
  have aK:∀ j,i<=j->j<=s.length->OkQ (fV (fA s n) s j d) ((bp N0 (D+1+1)).2.2.1 (s,((j:Int),((d:Int),())))):=λj hij hj=>
   vD (q2:=(bp N0 (D+1)).1) (q3:=(bp N0 (D+1)).2.1) (q4:=(bp N0 (D+1)).2.2.1) (q5:=(bp N0 (D+1)).2.2.2) hb hs (b9 j hij hj) (n7 hb (zt j hij))
  have qP:∀ j,i<=j->j<=s.length->OkQ (ga (fA s n) s j d) ((bp N0 (D+1+1+1)).2.1 (s,((j:Int),((d:Int),())))):=λj hij hj=>
   EW (q2:=(bp N0 (D+1+1)).1) (q3:=(bp N0 (D+1+1)).2.1) (q4:=(bp N0 (D+1+1)).2.2.1) (q5:=(bp N0 (D+1+1)).2.2.2) hb hs hj (λj2 hj2 hj3=>aK j2 (Nat.le_trans hij hj2) hj3) (λj2 hj2=>kK hb (zt j2 (Nat.le_trans hij hj2)))
  exact vE (q2:=(bp N0 (D+1+1+1)).1) (q3:=(bp N0 (D+1+1+1)).2.1) (q4:=(bp N0 (D+1+1+1)).2.2.1) (q5:=(bp N0 (D+1+1+1)).2.2.2) hb hs hi qP (λj hij t j2 h=>kL hb n aZ (by omega) t j2 h)
theorem HV{s:List Int}(hb:Bytes s):p97 N0 (s,())=some (B7 (cG s)):=by
 unfold p97 cG
 dsimp only
 by_cases hs:1600<s.length
 ·rw[if_pos hs,decide_eq_true (show(1600:Int)<((s.length:Nat):Int) by omega),cond_true]
  rfl
 rw[if_neg hs,decide_eq_false (show ¬(1600:Int)<((s.length:Nat):Int) by omega),cond_false]
 have hq:OkQ (fA s s.length.succ 0 0) (Hv N0 (s,(((0:Nat):Int),(((0:Nat):Int),())))):=EX hb (by omega) s.length.succ N0 0 0 (by unfold N0;omega) (by omega) (Nat.zero_le _) (Nat.le_refl _)
 have e0:(s,(((0:Nat):Int),(((0:Nat):Int),())))=(s,((0:Int),((0:Int),()))):=rfl
 rw[e0]at hq
 unfold OkQ at hq
 cases ho:fA s s.length.succ 0 0 with
 |none=>
  rw[ho]at hq
  obtain⟨k,hq⟩:=hq
  rw[aa hq]
  rfl
 |some p=>
  obtain⟨t,i⟩:=p
  rw[ho]at hq
  dsimp only at hq
  rw[aa hq]
  dsimp only
  refine av ((),(decide (i<s.length),())) (λK=>?_) ?_
  ·have:decide (((i:Nat):Int)<((s.length:Nat):Int))=decide (i<s.length):=by rw[decide_eq_decide];omega
   rw[eS t,cond_false,this]
  dsimp only
  by_cases h2:i<s.length
  ·rw[if_pos h2,decide_eq_true h2];rfl
  rw[if_neg h2,decide_eq_false h2,cond_false]
  rw[t.az]
  by_cases h3:400<t.len
  ·rw[if_pos h3,decide_eq_true (show(400:Int)<((t.len:Nat):Int) by omega)];rfl
  ·rw[if_neg h3,decide_eq_false (show ¬(400:Int)<((t.len:Nat):Int) by omega)];rfl
end
noncomputable section
def bq(k:Int):Int:=if k=0\/k=1 then 0 else if k=2\/k=3 then 2 else 1
theorem Cf:∀ k:Fin 7,zm N0 (((k.val:Nat):Int),())=some ((bq ((k.val:Nat):Int),()),()):=by decide +kernel
theorem mH{k:Int}(h:0<=k/\k<=6):zm N0 (k,())=some ((bq k,()),()):=by
 have:=Cf ⟨k.toNat,by omega⟩
 simp only[Int.toNat_of_nonneg h.1]at this
 exact this
theorem vF{k:Int}{a:Rx}(h:(Rx.rep k a).ok):0<=k/\k<=6/\bq k=1:=by
 rcases h.1 with rfl|rfl|rfl <;> decide
theorem vG{r:List Pc}(hr:r.length<=100000)(body)(KL:body=(λ(v3:Unit×(Int×(Int×Unit)))=>(λ(v4:(Unit×(Int×(Int×Unit)))->Option ((Int×Unit)×Unit))=>
 (bif decide (0<=v3.2.2.1)then(if 0<=v3.2.2.1 then(match r[(v3.2.2.1).toNat]? with|some v5=>(af (zm N0 (v5.1,())) (λv6=>(bif decide ((IntKind.wrap .i64 ((IntKind.wrap .i64 (v3.2.1-1))+v6.1.1))=0)then(some ((v3.2.2.1,()),()))else(v4 ((),((IntKind.wrap .i64 ((IntKind.wrap .i64 (v3.2.1-1))+v6.1.1)),((IntKind.wrap .i64 (v3.2.2.1-1)),())))))))|none=>none)else none)else(some ((0,()),())))))):
 ∀ (t:Rx) (F n:Nat) (l rest:List Pc),t.ok->r=l++t.post++rest->1<=n->n+t.len<=1000000->aq body (F+t.len) ((),((n:Int),(((l.length+t.len:Nat):Int)-1,())))=if n=1 then some ((((l.length:Nat):Int),()),())else aq body F ((),((n:Int)-1,(((l.length:Nat):Int)-1,()))):=by
 -- one step
 have step:∀ (F:Nat) (n i:Nat) (p:Pc),r[i]?=some p->0<=p.1/\p.1<=6->1<=n->n<=1000000->
  aq body (F+1) ((),((n:Int),((i:Int),())))=if(n:Int)-1+bq p.1=0 then some ((((i:Nat):Int),()),())else aq body F ((),((n:Int)-1+bq p.1,((i:Int)-1,()))):=by
  intro F n i p hp hk hn1 hn2
  have hi:i<r.length:=by
   rcases Nat.lt_or_ge i r.length with h|h
   ·exact h
   ·rw[List.getElem?_eq_none h]at hp;cases hp
  have ht:0<=bq p.1/\bq p.1<=2:=by
   unfold bq
   split
   ·omega
   ·split <;> omega
  rw[bP,KL]
  simp only
  have n0:(0:Int)<=(i:Int):=by omega
  have w1:IntKind.wrap .i64 ((n:Int)-1)=(n:Int)-1:=bc (by omega) (by omega)
  have w2:IntKind.wrap .i64 ((n:Int)-1+bq p.1)=(n:Int)-1+bq p.1:=bc (by omega) (by omega)
  have w3:IntKind.wrap .i64 ((i:Int)-1)=(i:Int)-1:=bc (by omega) (by omega)
  simp only[decide_eq_true n0,cond_true,if_pos n0,Int.toNat_natCast,hp,mH hk,aX,w1,w2,w3]
  by_cases h:(n:Int)-1+bq p.1=0
  ·rw[if_pos h,decide_eq_true h,cond_true]
  ·rw[if_neg h,decide_eq_false h,cond_false]
 intro t
 induction t with
 |eps=>
  intro F n l rest _ hr2 hn1 hn2
  simp only[Rx.len]
  have hp:r[l.length]?=some (0,zS):=by rw[hr2];simp[Rx.post]
  have e:((l.length+1:Nat):Int)-1=((l.length:Nat):Int):=by omega
  rw[e,step F n l.length _ hp (by decide) hn1 (by omega)]
  have e2:bq ((0,zS):Pc).1=0:=rfl
  rw[e2,Int.add_zero]
  by_cases h:n=1
  ·rw[if_pos h,if_pos (by omega)]
  ·rw[if_neg h,if_neg (by omega)]
 |set S=>
  intro F n l rest _ hr2 hn1 hn2
  simp only[Rx.len]
  have hp:r[l.length]?=some (1,S):=by rw[hr2];simp[Rx.post]
  have e:((l.length+1:Nat):Int)-1=((l.length:Nat):Int):=by omega
  rw[e,step F n l.length _ hp ⟨(by decide:(0:Int)<=1),(by decide:(1:Int)<=6)⟩ hn1 (by omega)]
  have e2:bq ((1,S):Pc).1=0:=rfl
  rw[e2,Int.add_zero]
  by_cases h:n=1
  ·rw[if_pos h,if_pos (by omega)]
  ·rw[if_neg h,if_neg (by omega)]
 |cat a b iha ihb=>
  intro F n l rest hok hr2 hn1 hn2
  simp only[Rx.len]at hn2 |-
  have hp:r[l.length+(a.len+b.len)]?=some (2,zS):=by
   rw[hr2]
   simp[Rx.post,<-a.az,<-b.az,Nat.add_assoc]
  have e:((l.length+(a.len+b.len+1):Nat):Int)-1=((l.length+(a.len+b.len):Nat):Int):=by omega
  rw[e,show F+(a.len+b.len+1)=(F+a.len+b.len)+1 by omega,step _ n _ _ hp (by decide) hn1 (by omega)]
  have e2:bq ((2,zS):Pc).1=2:=rfl
  rw[e2,if_neg (by omega)]
  have hb:=ihb (F+a.len) (n+1) (l++a.post) ([(2,zS)]++rest) hok.2 (by rw[hr2];simp[Rx.post]) (by omega) (by omega)
  rw[if_neg (by omega)]at hb
  have e3:(n:Int)-1+2=((n+1:Nat):Int):=by omega
  have e4:((l.length+(a.len+b.len):Nat):Int)-1=(((l++a.post).length+b.len:Nat):Int)-1:=by rw[List.length_append,a.az];omega
  rw[e3,e4,hb]
  have ha:=iha F n l (b.post++[(2,zS)]++rest) hok.1 (by rw[hr2];simp[Rx.post]) hn1 (by omega)
  have e5:((n+1:Nat):Int)-1=(n:Int):=by omega
  rw[e5,List.length_append,a.az,ha]
 |alt a b iha ihb=>
  intro F n l rest hok hr2 hn1 hn2
  simp only[Rx.len]at hn2 |-
  have hp:r[l.length+(a.len+b.len)]?=some (3,zS):=by
   rw[hr2]
   simp[Rx.post,<-a.az,<-b.az,Nat.add_assoc]
  have e:((l.length+(a.len+b.len+1):Nat):Int)-1=((l.length+(a.len+b.len):Nat):Int):=by omega
  rw[e,show F+(a.len+b.len+1)=(F+a.len+b.len)+1 by omega,step _ n _ _ hp (by decide) hn1 (by omega)]
  have e2:bq ((3,zS):Pc).1=2:=rfl
  rw[e2,if_neg (by omega)]
  have hb:=ihb (F+a.len) (n+1) (l++a.post) ([(3,zS)]++rest) hok.2 (by rw[hr2];simp[Rx.post]) (by omega) (by omega)
  rw[if_neg (by omega)]at hb
  have e3:(n:Int)-1+2=((n+1:Nat):Int):=by omega
  have e4:((l.length+(a.len+b.len):Nat):Int)-1=(((l++a.post).length+b.len:Nat):Int)-1:=by rw[List.length_append,a.az];omega
  rw[e3,e4,hb]
  have ha:=iha F n l (b.post++[(3,zS)]++rest) hok.1 (by rw[hr2];simp[Rx.post]) hn1 (by omega)
  have e5:((n+1:Nat):Int)-1=(n:Int):=by omega
  rw[e5,List.length_append,a.az,ha]
 |rep k a iha=>
  intro F n l rest hok hr2 hn1 hn2
  simp only[Rx.len]at hn2 |-
  obtain⟨k1,k2,k3⟩:=vF hok
  have hp:r[l.length+a.len]?=some (k,zS):=by
   rw[hr2]
   simp[Rx.post,<-a.az]
  have e:((l.length+(a.len+1):Nat):Int)-1=((l.length+a.len:Nat):Int):=by omega
  rw[e,show F+(a.len+1)=(F+a.len)+1 by omega,step _ n _ _ hp ⟨k1,k2⟩ hn1 (by omega)]
  have e2:bq ((k,zS):Pc).1=1:=k3
  rw[e2,if_neg (by omega)]
  have ha:=iha F n l ([(k,zS)]++rest) hok.2 (by rw[hr2];simp[Rx.post]) hn1 (by omega)
  have e5:(n:Int)-1+1=(n:Int):=by omega
  rw[e5,ha]
theorem xb{l rest:List Pc}{t:Rx}(hok:t.ok)(hl:(l++t.post++rest).length<=100000):vt N0 (l++t.post++rest,(((l.length+t.len:Nat):Int)-1,()))=some ((((l.length:Nat):Int),()),()):=by
 have hlen:t.len<=100000:=by
  have:=t.az
  rw[List.length_append,List.length_append]at hl
  omega
 have h:=vG hl _ rfl t (N0-t.len) 1 l rest hok rfl (by omega) (by omega)
 rw[if_pos rfl,show N0-t.len+t.len=N0 by unfold N0;omega]at h
 exact h
end
noncomputable section
theorem kP{α:Type}(l m rest:List α):br (l++m++rest) ((l.length:Nat):Int) ((l.length+m.length:Nat):Int)=m:=by
 unfold br
 rw[Int.toNat_natCast,Int.toNat_natCast,Nat.add_sub_cancel_left,List.append_assoc,List.drop_left,List.take_left]
theorem gq{r0:List Pc}{p:Pc}(h:r0.length<=100000):IntKind.wrap .i64 ((((r0++[p]).length:Nat):Int)-1)=((r0.length:Nat):Int)/\(r0++[p])[r0.length]?=some p:=by
 constructor
 ·have:((((r0++[p]).length:Nat):Int)-1)=((r0.length:Nat):Int):=by rw[List.length_append];simp
  rw[this];exact aL (by omega)
 ·simp
theorem zu{p:Pc}(hk:0<=p.1/\p.1<=6)(ht:bq p.1=0):qD N0 ([p],())=some (([],()),()):=by
 obtain⟨h1,h2⟩:=gq (r0:=[]) (p:=p) (by simp)
 unfold qD
 have n0:(0:Int)<=((([]:List Pc).length:Nat):Int):=by omega
 rw[List.nil_append]at h1 h2
 simp only[h1,if_pos n0,Int.toNat_natCast,h2,mH hk,aX,ht]
 refine aJ (λm x r=>x=((),([],(((([]:List Pc).length:Nat):Int),((0:Int),()))))/\r=some (([],()),())) ?_ N0 0 _ _ (by unfold N0;omega) ⟨rfl,rfl⟩
 rintro m x r ⟨rfl,rfl⟩ k hk
 rfl
theorem pp{rest:List Pc}{t:Rx}(hok:t.ok)(hl:(t.post++rest).length<=100000):vt N0 (t.post++rest,(((t.post.length:Nat):Int)-1,()))=some (((0:Int),()),()):=by
 have e1:([]:List Pc)++t.post=t.post:=List.nil_append _
 have:=xb (l:=[]) (rest:=rest) (t:=t) hok (by rw[e1];exact hl)
 have e2:([]:List Pc).length+t.len=t.post.length:=by rw[t.az,List.length_nil,Nat.zero_add]
 have e3:((([]:List Pc).length:Nat):Int)=0:=rfl
 rw[e1,e2,e3]at this
 exact this
theorem Cg{a:Rx}{p:Pc}(ha:a.ok)(hl:a.len<=10000)(hk:0<=p.1/\p.1<=6)(ht:bq p.1=1):qD N0 (a.post++[p],())=some (([a.post],()),()):=by
 have pl:=a.az
 obtain⟨h1,h2⟩:=gq (r0:=a.post) (p:=p) (by omega)
 have n0:(0:Int)<=((a.post.length:Nat):Int):=by omega
 have q1:vt N0 (a.post++[p],(((a.post.length:Nat):Int)-1,()))=some (((0:Int),()),()):=by
  exact pp ha (by rw[List.length_append,List.length_singleton];omega)
 unfold qD
 simp only[h1]
 rw[if_pos n0,Int.toNat_natCast,h2]
 simp only
 rw[aa (mH hk),ht]
 simp only
 refine aJ (λm x r=>((m=1/\x=((),([],(((a.post.length:Nat):Int),((1:Int),())))))\/(m=0/\x=((),([a.post],((0:Int),((0:Int),()))))))/\r=some (([a.post],()),())) ?_ N0 1 _ _ (by unfold N0;omega) ⟨.inl ⟨rfl,rfl⟩,rfl⟩
 rintro m x r ⟨hx,rfl⟩ k hk
 rcases hx with⟨rfl,rfl⟩|⟨rfl,rfl⟩
 ·have w1:IntKind.wrap .i64 (((a.post.length:Nat):Int)-1)=((a.post.length:Nat):Int)-1:=bc (by omega) (by omega)
  have c0:(0:Int)<=0/\(0:Int)<=((a.post.length:Nat):Int)/\((a.post.length:Nat):Int)<=(((a.post++[p]).length:Nat):Int):=⟨by omega,by omega,by rw[List.length_append];omega⟩
  have n5:br (a.post++[p]) 0 ((a.post.length:Nat):Int)=a.post:=by
   have:=kP ([]:List Pc) a.post [p]
   simpa using this
  have f1:(([a.post]:List (List Pc)).length+([]:List (List Pc)).length)*24<=140737488355328:=by simp
  have f2:([a.post]:List (List Pc)).length+([]:List (List Pc)).length<=9223372036854775807:=by simp
  have w2:IntKind.wrap .i64 ((1:Int)-1)=0:=bc (by omega) (by omega)
  simp only[show decide ((0:Int)<1)=true from rfl,cond_true,w1,q1,aX,if_pos c0,n5,if_pos f1,if_pos f2,w2,List.append_nil]
  exact hk 0 _ _ (by omega) ⟨.inr ⟨rfl,rfl⟩,rfl⟩
 ·simp only[show decide ((0:Int)<0)=false from rfl,cond_false]
theorem tK{a b:Rx}{p:Pc}(ha:a.ok)(hb:b.ok)(hl:a.len+b.len<=10000)(hk:0<=p.1/\p.1<=6)(ht:bq p.1=2):qD N0 (a.post++b.post++[p],())=some (([a.post,b.post],()),()):=by
 have pl:=a.az
 have pl2:=b.az
 have NJ:(a.post++b.post++[p]).length=(a.post++b.post).length+1:=by rw[List.length_append];rfl
 have lab:(a.post++b.post).length=a.post.length+b.post.length:=List.length_append
 obtain⟨h1,h2⟩:=gq (r0:=a.post++b.post) (p:=p) (by rw[List.length_append];omega)
 have n0:(0:Int)<=(((a.post++b.post).length:Nat):Int):=by omega
 have q1:vt N0 (a.post++b.post++[p],((((a.post++b.post).length:Nat):Int)-1,()))=some ((((a.post.length:Nat):Int),()),()):=by
  have:=xb (l:=a.post) (rest:=[p]) (t:=b) hb (by simp;omega)
  rw[List.length_append,pl2]
  exact this
 have q2:vt N0 (a.post++b.post++[p],(((a.post.length:Nat):Int)-1,()))=some (((0:Int),()),()):=by
  rw[List.append_assoc]
  exact pp ha (by rw[List.length_append,List.length_append,List.length_singleton];omega)
 unfold qD
 simp only[h1]
 rw[if_pos n0,Int.toNat_natCast,h2]
 simp only
 rw[aa (mH hk),ht]
 simp only
 refine aJ (λm x r=>((m=2/\x=((),([],((((a.post++b.post).length:Nat):Int),((2:Int),())))))\/(m=1/\x=((),([b.post],(((a.post.length:Nat):Int),((1:Int),())))))\/(m=0/\x=((),([a.post,b.post],((0:Int),((0:Int),()))))))/\r=some (([a.post,b.post],()),())) ?_ N0 2 _ _ (by unfold N0;omega) ⟨.inl ⟨rfl,rfl⟩,rfl⟩
 rintro m x r ⟨hx,rfl⟩ k hk
 rcases hx with⟨rfl,rfl⟩|⟨rfl,rfl⟩|⟨rfl,rfl⟩
 ·have w1:IntKind.wrap .i64 ((((a.post++b.post).length:Nat):Int)-1)=(((a.post++b.post).length:Nat):Int)-1:=bc (by omega) (by rw[List.length_append];omega)
  have c0:(0:Int)<=((a.post.length:Nat):Int)/\((a.post.length:Nat):Int)<=(((a.post++b.post).length:Nat):Int)/\(((a.post++b.post).length:Nat):Int)<=(((a.post++b.post++[p]).length:Nat):Int):=⟨by omega,by omega,by omega⟩
  have n5:br (a.post++b.post++[p]) ((a.post.length:Nat):Int) (((a.post++b.post).length:Nat):Int)=b.post:=by
   rw[lab]
   exact kP a.post b.post [p]
  have f1:(([b.post]:List (List Pc)).length+([]:List (List Pc)).length)*24<=140737488355328:=by simp
  have f2:([b.post]:List (List Pc)).length+([]:List (List Pc)).length<=9223372036854775807:=by simp
  have w2:IntKind.wrap .i64 ((2:Int)-1)=1:=bc (by omega) (by omega)
  simp only[show decide ((0:Int)<2)=true from rfl,cond_true,w1,q1,aX,if_pos c0,n5,if_pos f1,if_pos f2,w2,List.append_nil]
  exact hk 1 _ _ (by omega) ⟨.inr (.inl ⟨rfl,rfl⟩),rfl⟩
 ·have w1:IntKind.wrap .i64 (((a.post.length:Nat):Int)-1)=((a.post.length:Nat):Int)-1:=bc (by omega) (by omega)
  have c0:(0:Int)<=0/\(0:Int)<=((a.post.length:Nat):Int)/\((a.post.length:Nat):Int)<=(((a.post++b.post++[p]).length:Nat):Int):=⟨by omega,by omega,by rw[List.length_append,List.length_append];omega⟩
  have n5:br (a.post++b.post++[p]) 0 ((a.post.length:Nat):Int)=a.post:=by
   have:=kP ([]:List Pc) a.post (b.post++[p])
   simpa using this
  have f1:(([a.post]:List (List Pc)).length+([b.post]:List (List Pc)).length)*24<=140737488355328:=by simp
  have f2:([a.post]:List (List Pc)).length+([b.post]:List (List Pc)).length<=9223372036854775807:=by simp
  have w2:IntKind.wrap .i64 ((1:Int)-1)=0:=bc (by omega) (by omega)
  simp only[show decide ((0:Int)<1)=true from rfl,cond_true,w1,q2,aX,if_pos c0,n5,if_pos f1,if_pos f2,w2]
  exact hk 0 _ _ (by omega) ⟨.inr (.inr ⟨rfl,rfl⟩),rfl⟩
 ·simp only[show decide ((0:Int)<0)=false from rfl,cond_false]
theorem qR(a b:Bool):BL N0 ([a],([b],()))=some (([a||b],()),()):=by
 revert a b
 decide +kernel
abbrev EnF:=(List Pc×(List Int×(List Bool×Unit)))->Option ((List Bool×Unit)×Unit)
theorem Ch{q2 q3:EnF}{r:List Pc}{n:Bool}(h:∀ b,q2 (r,([],([b],())))=some (([b&&n],()),()))(b:Bool):tt N0 q2 q3 (r,([],([b],())))=some (([b],()),()):=by
 unfold tt
 dsimp only
 refine aJ (λm x q=>x=((),([b],((0:Int),())))/\q=some (([b],()),())) ?_ N0 0 _ _ (by unfold N0;omega) ⟨rfl,rfl⟩
 rintro m x q ⟨rfl,rfl⟩ k hk
 have e1:decide ((0:Int)<=((([]:List Int).length:Nat):Int))=true:=rfl
 have e2:(b||(b&&n))=b:=by cases b <;> rfl
 simp only[e1,cond_true,h b,aX,qR,e2]
 refine aJ (λm x q=>((m=1/\x=((),(true,((0:Int),()))))\/(m=0/\x=((),(true,((1:Int),())))))/\q=some (([b],()),())) ?_ N0 1 _ _ (by unfold N0;omega) ⟨.inl ⟨rfl,rfl⟩,rfl⟩
 rintro m x q ⟨hx,rfl⟩ k2 hk2
 rcases hx with⟨rfl,rfl⟩|⟨rfl,rfl⟩
 ·have g0:([b]:List Bool)[((0:Int)).toNat]?=some b:=rfl
  have e3:decide ((0:Int)<(([b]:List Bool).length:Nat))=true:=rfl
  have n0:(0:Int)<=0:=by omega
  simp only[e3,cond_true,aY,if_pos n0,g0,beq_self_eq_true]
  exact hk2 0 _ _ (by omega) ⟨.inr ⟨rfl,rfl⟩,rfl⟩
 ·rfl
end
noncomputable section
theorem tL{α:Type}(x:α)(l:List α):(x::l)[((0:Int)).toNat]?=some x:=rfl
theorem KN{α:Type}(x y:α)(l:List α):(x::y::l)[((1:Int)).toNat]?=some y:=rfl
theorem tM{p:Pc}(hk:0<=p.1/\p.1<=6)(ht:bq p.1=0):qD N0 ([]++[p],())=some (([],()),()):=by
 rw[List.nil_append];exact zu hk ht
theorem z0:(0:Int)<=0:=by omega
theorem z1:(0:Int)<=1:=by omega
theorem EY:∀ (t:Rx),t.ok->t.len<=10000->∀ (D:Nat) (b:Bool),2*t.len<=D->(dy N0 D).1 (t.post,([],([b],())))=some (([b&&t.null],()),()):=by
 have c0:∀ b:Bool,(0:Int)<=(([b]:List Bool).length:Nat)/\((([b]:List Bool).length:Nat):Int)<=(([b]:List Bool).length:Nat):=λb=>⟨by omega,by omega⟩
 have c1:∀ b:Bool,(((([b]:List Bool).length:Nat):Int)).toNat*1<=140737488355328:=λb=>by rw[Int.toNat_natCast,List.length_singleton];omega
 intro t
 induction t with
 |eps=>
  intro _ _ D b hD
  obtain⟨D,rfl⟩:∃ q,D=q+1:=⟨D-1,by simp only[Rx.len]at hD;omega⟩
  obtain⟨h1,h2⟩:=gq (r0:=[]) (p:=(0,zS)) (by simp)
  have n0:(0:Int)<=((([]:List Pc).length:Nat):Int):=by omega
  show gN N0 (dy N0 D).1 (dy N0 D).2 ([]++[(0,zS)],([],([b],())))=_
  unfold gN
  simp only[h1]
  rw[if_pos (c0 b),if_pos (c1 b),aa (tM (p:=(0,zS)) (by decide) rfl)]
  simp only
  rw[if_pos n0,Int.toNat_natCast,h2]
  simp only
  rw[decide_true,cond_true,Rx.null,Bool.and_true]
 |set S=>
  intro _ _ D b hD
  obtain⟨D,rfl⟩:∃ q,D=q+1:=⟨D-1,by simp only[Rx.len]at hD;omega⟩
  obtain⟨h1,h2⟩:=gq (r0:=[]) (p:=(1,S)) (by simp)
  have n0:(0:Int)<=((([]:List Pc).length:Nat):Int):=by omega
  show gN N0 (dy N0 D).1 (dy N0 D).2 ([]++[(1,S)],([],([b],())))=_
  unfold gN
  simp only[h1]
  rw[if_pos (c0 b),if_pos (c1 b),aa (tM (p:=(1,S)) ⟨z1,(by decide:(1:Int)<=6)⟩ rfl)]
  simp only
  rw[if_pos n0,Int.toNat_natCast,h2]
  simp only
  rw[show decide ((1:Int)=0)=false from rfl,cond_false,decide_true,cond_true,Rx.null,Bool.and_false]
  refine aJ (λm x q=>x=(([false],()),((0:Int),()))/\q=some (([false],()),())) ?_ N0 0 _ _ (by unfold N0;omega) ⟨rfl,rfl⟩
  rintro m x q ⟨rfl,rfl⟩ k hk
  simp only
  rw[show decide ((0:Int)<((([]:List Int).length:Nat):Int))=false from rfl,cond_false]
 |cat u v ihu ihv=>
  intro hok hl D b hD
  simp only[Rx.len]at hl hD
  obtain⟨D,rfl⟩:∃ q,D=q+1:=⟨D-1,by omega⟩
  obtain⟨h1,h2⟩:=gq (r0:=u.post++v.post) (p:=(2,zS)) (by rw[List.length_append,u.az,v.az];omega)
  have n0:(0:Int)<=(((u.post++v.post).length:Nat):Int):=by omega
  show gN N0 (dy N0 D).1 (dy N0 D).2 (u.post++v.post++[(2,zS)],([],([b],())))=_
  unfold gN
  simp only[h1]
  rw[if_pos (c0 b),if_pos (c1 b),aa (tK (p:=(2,zS)) hok.1 hok.2 (by omega) (by decide) rfl)]
  simp only
  rw[if_pos n0,Int.toNat_natCast,h2]
  simp only
  rw[show decide ((2:Int)=0)=false from rfl,cond_false,show decide ((2:Int)=1)=false from rfl,cond_false,decide_true,cond_true,if_pos z1,KN]
  simp only
  rw[if_pos z0,tL]
  simp only
  rw[aa (ihu hok.1 (by omega) D b (by omega))]
  simp only
  rw[aa (ihv hok.2 (by omega) D (b&&u.null) (by omega))]
  simp only
  rw[Rx.null,Bool.and_assoc]
 |alt u v ihu ihv=>
  intro hok hl D b hD
  simp only[Rx.len]at hl hD
  obtain⟨D,rfl⟩:∃ q,D=q+1:=⟨D-1,by omega⟩
  obtain⟨h1,h2⟩:=gq (r0:=u.post++v.post) (p:=(3,zS)) (by rw[List.length_append,u.az,v.az];omega)
  have n0:(0:Int)<=(((u.post++v.post).length:Nat):Int):=by omega
  show gN N0 (dy N0 D).1 (dy N0 D).2 (u.post++v.post++[(3,zS)],([],([b],())))=_
  unfold gN
  simp only[h1]
  rw[if_pos (c0 b),if_pos (c1 b),aa (tK (p:=(3,zS)) hok.1 hok.2 (by omega) (by decide) rfl)]
  simp only
  rw[if_pos n0,Int.toNat_natCast,h2]
  simp only
  rw[show decide ((3:Int)=0)=false from rfl,cond_false,show decide ((3:Int)=1)=false from rfl,cond_false,show decide ((3:Int)=2)=false from rfl,cond_false,decide_true,cond_true,if_pos z0,tL]
  simp only
  rw[aa (ihu hok.1 (by omega) D b (by omega))]
  simp only
  rw[if_pos z1,KN]
  simp only
  rw[aa (ihv hok.2 (by omega) D b (by omega))]
  simp only
  rw[aa (qR _ _),Rx.null]
  have e:((b&&u.null)||(b&&v.null))=(b&&(u.null||v.null)):=by cases b <;> simp
  simp only
  rw[e]
 |rep kd u ihu=>
  intro hok hl D b hD
  simp only[Rx.len]at hl hD
  have hup:=u.aN
  obtain⟨D,rfl⟩:∃ q,D=q+1+1:=⟨D-2,by omega⟩
  obtain⟨k1,k2,k3⟩:=vF hok
  obtain⟨h1,h2⟩:=gq (r0:=u.post) (p:=(kd,zS)) (by rw[u.az];omega)
  have n0:(0:Int)<=((u.post.length:Nat):Int):=by omega
  show gN N0 (dy N0 (D+1)).1 (dy N0 (D+1)).2 (u.post++[(kd,zS)],([],([b],())))=_
  unfold gN
  simp only[h1]
  rw[if_pos (c0 b),if_pos (c1 b),aa (Cg (p:=(kd,zS)) hok.2 (by omega) ⟨k1,k2⟩ k3)]
  simp only
  rw[if_pos n0,Int.toNat_natCast,h2]
  simp only
  have hag:∀ b:Bool,(dy N0 (D+1)).2 (u.post,([],([b],())))=some (([b],()),()):=λb=>
   Ch (q2:=(dy N0 D).1) (q3:=(dy N0 D).2) (n:=u.null) (λb=>ihu hok.2 (by omega) D b (by omega)) b
  have hu:=λb=>ihu hok.2 (by omega) (D+1) b (by omega)
  rcases hok.1 with rfl|rfl|rfl
  ·rw[show decide ((4:Int)=0)=false from rfl,cond_false,show decide ((4:Int)=1)=false from rfl,cond_false,show decide ((4:Int)=2)=false from rfl,cond_false,show decide ((4:Int)=3)=false from rfl,cond_false,show decide ((4:Int)=6)=false from rfl,cond_false,if_pos n0]
   rw[show decide ((4:Int)=4)=true from rfl,cond_true,if_pos z0,tL]
   simp only
   rw[aa (hag b)]
   simp only
   have e:(b&&(Rx.rep 4 u).null)=b:=by simp[Rx.null]
   rw[e]
  ·rw[show decide ((5:Int)=0)=false from rfl,cond_false,show decide ((5:Int)=1)=false from rfl,cond_false,show decide ((5:Int)=2)=false from rfl,cond_false,show decide ((5:Int)=3)=false from rfl,cond_false,show decide ((5:Int)=6)=false from rfl,cond_false,if_pos n0]
   rw[show decide ((5:Int)=4)=false from rfl,cond_false,if_pos z0,tL]
   simp only
   rw[if_pos z0]
   rw[aa (hu b)]
   simp only
   rw[aa (hag _)]
   simp only
   have e:(Rx.rep 5 u).null=u.null:=by simp[Rx.null]
   rw[e]
  ·rw[show decide ((6:Int)=0)=false from rfl,cond_false,show decide ((6:Int)=1)=false from rfl,cond_false,show decide ((6:Int)=2)=false from rfl,cond_false,show decide ((6:Int)=3)=false from rfl,cond_false,show decide ((6:Int)=6)=true from rfl,cond_true,if_pos z0,tL]
   simp only
   rw[aa (hu b)]
   simp only
   rw[aa (qR _ _)]
   simp only
   have e:(b||(b&&u.null))=(b&&(Rx.rep 6 u).null):=by cases b <;> simp[Rx.null]
   rw[e]
theorem HW{t:Rx}(hok:t.ok)(hl:t.len<=10000):p98 N0 (t.post,([],()))=some ((t.null,()),()):=by
 have h:=EY t hok hl N0 true (by unfold N0;omega)
 unfold p98
 have w:IntKind.wrap .i64 ((((([]:List Int).length:Nat):Int))+1)=1:=bc (by simp) (by simp)
 simp only[w]
 rw[if_pos (show(0:Int)<=1/\(1:Int)<=1 by omega),if_pos (show((1:Int)).toNat*1<=140737488355328 by decide),if_pos z0,show(List.replicate ((1:Int)).toNat false)[((0:Int)).toNat]?=some false from rfl]
 simp only
 rw[if_pos z0,show(List.replicate ((1:Int)).toNat false).set ((0:Int)).toNat true=[true]from rfl]
 have h2:HB N0 (t.post,([],([true],())))=some (([true&&t.null],()),()):=h
 rw[aa h2]
 simp only
 rw[show(((([]:List Int).length:Nat):Int))=0 from rfl,if_pos z0,tL]
 simp only
 rw[Bool.true_and]
end
noncomputable section
theorem mI{S:List Int}{w:Nat}{x:Int}(hx:S[w]?=some x)(h:0<=x/\x<=18446744073709551615):x=((aI (λi=>((S[i / 64]?).getD 0).toNat.testBit (i % 64)) w:Nat):Int):=by
 have:x.toNat=aI (λi=>((S[i / 64]?).getD 0).toNat.testBit (i % 64)) w:=by
  apply jK
  intro i
  by_cases hi:i<64
  ·have e1:(64*w+i) / 64=w:=by omega
   have e2:(64*w+i) % 64=i:=by omega
   rw[e1,e2,hx,decide_eq_true hi,Bool.true_and]
   rfl
  ·rw[decide_eq_false hi,Bool.false_and]
   apply Nat.testBit_lt_two_pow
   have:x.toNat<2 ^ 64:=by omega
   exact Nat.lt_of_lt_of_le this (Nat.pow_le_pow_right (by omega) (by omega))
 omega
theorem xd{S:List Int}(h1:S.length=4)(h2:∀ x∈S,0<=x/\x<=18446744073709551615):∃ l,S=ofB l:=by
 match S,h1 with
 |[a,b,c,d],_=>
  refine⟨λi=>((([a,b,c,d]:List Int)[i / 64]?).getD 0).toNat.testBit (i % 64),?_⟩
  have e0:=mI (S:=[a,b,c,d]) (w:=0) rfl (h2 a (by simp))
  have e1:=mI (S:=[a,b,c,d]) (w:=1) rfl (h2 b (by simp))
  have e2:=mI (S:=[a,b,c,d]) (w:=2) rfl (h2 c (by simp))
  have e3:=mI (S:=[a,b,c,d]) (w:=3) rfl (h2 d (by simp))
  unfold ofB
  rw[<-e0,<-e1,<-e2,<-e3]
theorem tN{S:List Int}(h1:S.length=4)(h2:∀ x∈S,0<=x/\x<=18446744073709551615):mC N0 (S,())=some ((decide (S=zS),()),()):=by
 obtain⟨l,rfl⟩:=xd h1 h2
 rw[wY]
 have:bZ l=decide (ofB l=zS):=by
  rw[Bool.eq_iff_iff,decide_eq_true_eq,et]
 rw[this]
theorem mJ:mC N0 (zS,())=some ((true,()),()):=by
 rw[tN rfl (by decide)]
 rfl
theorem eL{k:Int}(h:0<=k/\k<=6):sZ N0 (k,())=some ((bq k,()),()):=by
 rw[qO]
 have:(if k=0\/k=1 then(0:Int)else if k=4\/k=5\/k=6 then 1 else if k=2\/k=3 then 2 else -1)=bq k:=by
  unfold bq
  by_cases h0:k=0\/k=1
  ·rw[if_pos h0,if_pos h0]
  ·rw[if_neg h0,if_neg h0]
   by_cases h1:k=2\/k=3
   ·rw[if_neg (by omega),if_pos h1,if_pos h1]
   ·rw[if_pos (by omega),if_neg h1]
 rw[this]
abbrev ChS:=Unit×(Int×(Int×Unit))
def chB(r:List Pc):ChS->(ChS->Option ((Int×Unit)×Unit))->Option ((Int×Unit)×Unit):=λv3 v4=>
 (bif decide (v3.2.2.1<((r.length:Nat):Int))then(if 0<=v3.2.2.1 then(match r[(v3.2.2.1).toNat]? with|some v5=>(af (sZ N0 (v5.1,())) λv6=>(aj (λ(v7:Unit×(Bool×Unit))=>(bif v7.2.1 then some ((5,()),())else v4 ((),(IntKind.wrap .i64 (v3.2.1+IntKind.wrap .i64 (1-v6.1.1)),(IntKind.wrap .i64 (v3.2.2.1+1),()))))) λv8=>(bif decide (v6.1.1<0)then v8 ((),(true,()))else(bif decide (v3.2.1<v6.1.1)then v8 ((),(true,()))else(af (mC N0 (v5.2,())) λv9=>v8 ((),((decide (v5.1=1) == v9.1.1),())))))))|none=>none)else none)else(bif !decide (v3.2.1=1)then some ((5,()),())else some ((0,()),())))
theorem kQ{r:List Pc}(hr:r.length<=100000)(F d i:Nat)(p:Pc)(hp:r[i]?=some p)(hk:0<=p.1/\p.1<=6)(hd:bq p.1<=(d:Int))(hd2:d<=1000000)(hs:mC N0 (p.2,())=some ((!decide (p.1=1),()),())):
 aq (chB r) (F+1) ((),((d:Int),((i:Int),())))=aq (chB r) F ((),((d:Int)+(1-bq p.1),(((i+1:Nat):Int),()))):=by
 have hi:i<r.length:=by
  rcases Nat.lt_or_ge i r.length with h|h
  ·exact h
  ·rw[List.getElem?_eq_none h]at hp;cases hp
 have ht:0<=bq p.1/\bq p.1<=2:=by
  unfold bq
  split
  ·omega
  ·split <;> omega
 rw[bP]
 unfold chB
 simp only
 have n0:(0:Int)<=(i:Int):=by omega
 have w1:IntKind.wrap .i64 (1-bq p.1)=1-bq p.1:=bc (by omega) (by omega)
 have w2:IntKind.wrap .i64 ((d:Int)+(1-bq p.1))=(d:Int)+(1-bq p.1):=bc (by omega) (by omega)
 rw[decide_eq_true (show(i:Int)<((r.length:Nat):Int) by omega),cond_true,if_pos n0,Int.toNat_natCast,hp]
 simp only
 rw[aa (eL hk)]
 simp only
 refine av ((),(false,())) (λK=>?_) ?_
 ·rw[decide_eq_false (show ¬bq p.1<0 by omega),cond_false,decide_eq_false (show ¬(d:Int)<bq p.1 by omega),cond_false,aa hs]
  cases decide (p.1=1) <;> rfl
 ·simp only
  rw[cond_false,w1,w2,bf (by omega)]
theorem EZ{r:List Pc}(hr:r.length<=100000):∀ (t:Rx) (F d:Nat) (l rest:List Pc),t.ok->r=l++t.post++rest->d+t.len<=1000000->
 aq (chB r) (F+t.len) ((),((d:Int),((l.length:Int),())))=aq (chB r) F ((),(((d+1:Nat):Int),(((l.length+t.len:Nat):Int),()))):=by
 intro t
 induction t with
 |eps=>
  intro F d l rest _ hr2 hd
  simp only[Rx.len]
  have hp:r[l.length]?=some (0,zS):=by rw[hr2];simp[Rx.post]
  rw[kQ hr F d l.length _ hp (by decide) (by show(0:Int)<=_;omega) (by omega) mJ]
  rfl
 |set S=>
  intro F d l rest hok hr2 hd
  simp only[Rx.len]
  have hp:r[l.length]?=some (1,S):=by rw[hr2];simp[Rx.post]
  have hs:=tN hok.1 hok.2.2
  rw[decide_eq_false hok.2.1]at hs
  rw[kQ hr F d l.length _ hp ⟨z1,(by decide:(1:Int)<=6)⟩ (by show(0:Int)<=_;omega) (by omega) hs]
  rfl
 |cat a b iha ihb=>
  intro F d l rest hok hr2 hd
  simp only[Rx.len]at hd |-
  have pa:=a.aN
  have pb:=b.aN
  have hp:r[l.length+a.len+b.len]?=some (2,zS):=by
   rw[hr2]
   simp[Rx.post,<-a.az,<-b.az,Nat.add_assoc]
  rw[show F+(a.len+b.len+1)=(F+1+b.len)+a.len by omega,iha (F+1+b.len) d l (b.post++[(2,zS)]++rest) hok.1 (by rw[hr2];simp[Rx.post]) (by omega)]
  have hb:=ihb (F+1) (d+1) (l++a.post) ([(2,zS)]++rest) hok.2 (by rw[hr2];simp[Rx.post]) (by omega)
  rw[List.length_append,a.az]at hb
  rw[hb,kQ hr F (d+1+1) _ _ hp (by decide) (by show(2:Int)<=_;omega) (by omega) mJ]
  have e1:((d+1+1:Nat):Int)+(1-bq ((2,zS):Pc).1)=((d+1:Nat):Int):=by
   show _+(1-2:Int)=_
   omega
  have e2:l.length+a.len+b.len+1=l.length+(a.len+b.len+1):=by omega
  rw[e1,e2]
 |alt a b iha ihb=>
  intro F d l rest hok hr2 hd
  simp only[Rx.len]at hd |-
  have pa:=a.aN
  have pb:=b.aN
  have hp:r[l.length+a.len+b.len]?=some (3,zS):=by
   rw[hr2]
   simp[Rx.post,<-a.az,<-b.az,Nat.add_assoc]
  rw[show F+(a.len+b.len+1)=(F+1+b.len)+a.len by omega,iha (F+1+b.len) d l (b.post++[(3,zS)]++rest) hok.1 (by rw[hr2];simp[Rx.post]) (by omega)]
  have hb:=ihb (F+1) (d+1) (l++a.post) ([(3,zS)]++rest) hok.2 (by rw[hr2];simp[Rx.post]) (by omega)
  rw[List.length_append,a.az]at hb
  rw[hb,kQ hr F (d+1+1) _ _ hp (by decide) (by show(2:Int)<=_;omega) (by omega) mJ]
  have e1:((d+1+1:Nat):Int)+(1-bq ((3,zS):Pc).1)=((d+1:Nat):Int):=by
   show _+(1-2:Int)=_
   omega
  have e2:l.length+a.len+b.len+1=l.length+(a.len+b.len+1):=by omega
  rw[e1,e2]
 |rep k a iha=>
  intro F d l rest hok hr2 hd
  simp only[Rx.len]at hd |-
  obtain⟨k1,k2,k3⟩:=vF hok
  have hp:r[l.length+a.len]?=some (k,zS):=by
   rw[hr2]
   simp[Rx.post,<-a.az]
  have hk1:decide (k=1)=false:=by
   rcases hok.1 with rfl|rfl|rfl <;> rfl
  have hs:mC N0 (((k,zS):Pc).2,())=some ((!decide (((k,zS):Pc).1=1),()),()):=by
   show mC N0 (zS,())=some ((!decide (k=1),()),())
   rw[mJ,hk1];rfl
  rw[show F+(a.len+1)=(F+1)+a.len by omega,iha (F+1) d l ([(k,zS)]++rest) hok.2 (by rw[hr2];simp[Rx.post]) (by omega),
   kQ hr F (d+1) _ _ hp ⟨k1,k2⟩ (by show bq k<=_;rw[k3];omega) (by omega) hs]
  have e1:((d+1:Nat):Int)+(1-bq ((k,zS):Pc).1)=((d+1:Nat):Int):=by
   show _+(1-bq k)=_
   rw[k3];omega
  have e2:l.length+a.len+1=l.length+(a.len+1):=by omega
  rw[e1,e2]
theorem E0{t:Rx}(hok:t.ok)(hl:t.len<=400):Ec N0 (t.post,())=some ((0,()),()):=by
 have tl:=t.az
 have h:=EZ (r:=t.post) (by omega) t (N0-t.len) 0 [] [] hok (by simp) (by omega)
 rw[show N0-t.len+t.len=N0 by unfold N0;omega]at h
 unfold Ec
 simp only
 rw[decide_eq_false (show ¬(400:Int)<((t.post.length:Nat):Int) by omega),cond_false]
 refine Eq.trans h ?_
 obtain⟨q,hq⟩:∃ q,N0-t.len=q+1:=⟨N0-t.len-1,by unfold N0;omega⟩
 rw[hq,bP]
 unfold chB
 simp only
 have e:((([]:List Pc).length+t.len:Nat):Int)=((t.post.length:Nat):Int):=by rw[tl];simp
 rw[e,decide_eq_false (show ¬((t.post.length:Nat):Int)<((t.post.length:Nat):Int) by omega),cond_false]
 rfl
end
noncomputable section
abbrev EdI:=Int×(Int×(List Int×Bool))
abbrev edI(e:Ed):EdI:=((e.1:Int),((e.2.1:Int),(e.2.2.1,e.2.2.2)))
abbrev NfI:=Int×(List EdI×(Int×Int))
def nf(n:Nat)(E:List Ed):NfI:=((n:Int),(E.map edI,(0,0)))
theorem kR{n:Nat}(hn:n<=100000)(E:List Ed):Ee N0 (nf n E,())=some ((((n:Int),((n+1:Nat):Int)),()),(nf (n+2) E,())):=by
 have h:∀ m:Nat,m<=100001->Bz N0 (nf m E,())=some (((m:Int),()),(nf (m+1) E,())):=by
  intro m hm
  have w:IntKind.wrap .i64 (((m+1:Nat):Int)-1)=(m:Int):=by
   have:((m+1:Nat):Int)-1=(m:Int):=by omega
   rw[this];exact aL (by omega)
  unfold Bz nf
  simp only[bf (show m+1<9223372036854775808 by omega),w]
 unfold Ee
 simp only[h n (by omega),h (n+1) (by omega),aX]
theorem cW{E:List Ed}(hE:E.length<=100000)(n f l:Nat):lG N0 (nf n E,((f:Int),((l:Int),())))=some ((),(nf n (E++[fE f l]),())):=by
 unfold lG nf
 have c1:((E.map edI).length+([((f:Int),((l:Int),([0,0,0,0],true)))]:List EdI).length)*56<=140737488355328:=by simp;omega
 have c2:(E.map edI).length+([((f:Int),((l:Int),([0,0,0,0],true)))]:List EdI).length<=9223372036854775807:=by simp;omega
 simp only
 rw[if_pos c1,if_pos c2,List.map_append]
 rfl
theorem od{st0 ch:List (Int×Int)}(hl:(st0++ch).length<=100000){k:Int}(hk:k=((ch.length:Nat):Int))(X:Int×Int):
 IntKind.wrap .i64 ((((st0++ch).length:Nat):Int)-k)=((st0.length:Nat):Int)/\((0:Int)<=0/\(0:Int)<=((st0.length:Nat):Int)/\((st0.length:Nat):Int)<=(((st0++ch).length:Nat):Int))/\br (st0++ch) 0 ((st0.length:Nat):Int)=st0/\(st0.length+([X]:List (Int×Int)).length)*16<=140737488355328/\st0.length+([X]:List (Int×Int)).length<=9223372036854775807:=by
 rw[List.length_append]at hl
 subst hk
 refine⟨?_,⟨by omega,by omega,by rw[List.length_append];omega⟩,?_,by rw[List.length_singleton];omega,by rw[List.length_singleton];omega⟩
 ·have:((((st0++ch).length:Nat):Int)-((ch.length:Nat):Int))=((st0.length:Nat):Int):=by rw[List.length_append];omega
  rw[this];exact aL (by omega)
 ·have:=kP ([]:List (Int×Int)) st0 ch
  rw[List.nil_append,List.length_nil,Nat.zero_add]at this
  exact this
theorem Ci{n:Nat}(hn:n<=100000){E:List Ed}(hE:E.length<=10000)(S:List Int){st:List (Int×Int)}(hst:st.length<=100000):
 kF N0 (nf n E,((1,S),(st,())))=some ((st++[((n:Int),((n+1:Nat):Int))],()),(nf (n+2) (E++[(n,n+1,S,false)]),())):=by
 unfold kF
 simp only[kR hn,aX]
 refine av ((nf (n+2) (E++[(n,n+1,S,false)]),(st,())),()) (λK=>?_) ?_
 ·simp only[aY,show decide ((1:Int)=0)=false from rfl,show decide ((1:Int)=1)=true from rfl,decide_true,cond_false,cond_true]
  unfold nf
  have c1:((E.map edI).length+([((n:Int),(((n+1:Nat):Int),(S,false)))]:List EdI).length)*56<=140737488355328:=by simp;omega
  have c2:(E.map edI).length+([((n:Int),(((n+1:Nat):Int),(S,false)))]:List EdI).length<=9223372036854775807:=by simp;omega
  simp only
  rw[if_pos c1,if_pos c2,List.map_append]
  rfl
 ·obtain⟨h1,h2,h3,h4,h5⟩:=od (st0:=st) (ch:=[]) (by rw[List.append_nil];exact hst) (k:=0) rfl ((n:Int),((n+1:Nat):Int))
  rw[List.append_nil]at h1 h2 h3
  simp only
  rw[aa (eL (k:=1) (by decide))]
  have e:bq 1=0:=rfl
  simp only[e,h1]
  rw[if_pos h2,h3,if_pos h4,if_pos h5]
theorem Cj{n:Nat}(hn:n<=100000){E:List Ed}(hE:E.length<=10000){st:List (Int×Int)}(hst:st.length<=100000):
 kF N0 (nf n E,((0,zS),(st,())))=some ((st++[((n:Int),((n+1:Nat):Int))],()),(nf (n+2) (E++[fE n (n+1)]),())):=by
 unfold kF
 simp only[kR hn,aX]
 refine av ((nf (n+2) (E++[fE n (n+1)]),(st,())),()) (λK=>?_) ?_
 ·rw[decide_true,cond_true,aa (cW (by omega) _ _ _)]
 ·obtain⟨h1,h2,h3,h4,h5⟩:=od (st0:=st) (ch:=[]) (by rw[List.append_nil];exact hst) (k:=0) rfl ((n:Int),((n+1:Nat):Int))
  rw[List.append_nil]at h1 h2 h3
  simp only
  rw[aa (eL (k:=0) (by decide))]
  have e:bq 0=0:=rfl
  simp only[e,h1]
  rw[if_pos h2,h3,if_pos h4,if_pos h5]
theorem tO{st0:List (Int×Int)}{a b:Int×Int}(h:st0.length<=100000):IntKind.wrap .i64 ((((st0++[a,b]).length:Nat):Int)-2)=((st0.length:Nat):Int)/\IntKind.wrap .i64 ((((st0++[a,b]).length:Nat):Int)-1)=((st0.length+1:Nat):Int)/\(st0++[a,b])[st0.length]?=some a/\(st0++[a,b])[st0.length+1]?=some b:=by
 have hl:(st0++[a,b]).length=st0.length+2:=by rw[List.length_append];rfl
 refine⟨?_,?_,by simp,by simp⟩
 ·have:((((st0++[a,b]).length:Nat):Int)-2)=((st0.length:Nat):Int):=by omega
  rw[this];exact aL (by omega)
 ·have:((((st0++[a,b]).length:Nat):Int)-1)=((st0.length+1:Nat):Int):=by omega
  rw[this];exact aL (by omega)
theorem Ck{n:Nat}(hn:n<=100000){E:List Ed}(hE:E.length<=10000){st0:List (Int×Int)}(hst:st0.length<=90000)(f1 l1 f2 l2:Nat):
 kF N0 (nf n E,((2,zS),(st0++[((f1:Int),(l1:Int)),((f2:Int),(l2:Int))],())))=some ((st0++[((n:Int),((n+1:Nat):Int))],()),(nf (n+2) (E++[fE n f1,fE l1 f2,fE l2 (n+1)]),())):=by
 obtain⟨g1,g2,g3,g4⟩:=tO (st0:=st0) (a:=((f1:Int),(l1:Int))) (b:=((f2:Int),(l2:Int))) (by omega)
 unfold kF
 simp only[kR hn,aX]
 refine av ((nf (n+2) (E++[fE n f1,fE l1 f2,fE l2 (n+1)]),(st0++[((f1:Int),(l1:Int)),((f2:Int),(l2:Int))],())),()) (λK=>?_) ?_
 ·have n0:(0:Int)<=((st0.length:Nat):Int):=by omega
  have n1:(0:Int)<=((st0.length+1:Nat):Int):=by omega
  simp only[aY,show decide ((2:Int)=0)=false from rfl,show decide ((2:Int)=1)=false from rfl,decide_true,cond_false,cond_true,g1,g2]
  rw[if_pos n0,Int.toNat_natCast,g3]
  simp only
  rw[if_pos n1,Int.toNat_natCast,g4]
  simp only
  rw[aa (cW (by omega) _ _ _)]
  simp only
  rw[aa (cW (by simp;omega) _ _ _)]
  simp only
  rw[aa (cW (by simp;omega) _ _ _)]
  simp only[List.append_assoc,List.cons_append,List.nil_append]
 ·obtain⟨h1,h2,h3,h4,h5⟩:=od (st0:=st0) (ch:=[((f1:Int),(l1:Int)),((f2:Int),(l2:Int))]) (by rw[List.length_append];show st0.length+2<=_;omega) (k:=2) rfl ((n:Int),((n+1:Nat):Int))
  simp only
  rw[aa (eL (k:=2) (by decide))]
  have e:bq 2=2:=rfl
  simp only[e,h1]
  rw[if_pos h2,h3,if_pos h4,if_pos h5]
theorem Cl{n:Nat}(hn:n<=100000){E:List Ed}(hE:E.length<=10000){st0:List (Int×Int)}(hst:st0.length<=90000)(f1 l1 f2 l2:Nat):
 kF N0 (nf n E,((3,zS),(st0++[((f1:Int),(l1:Int)),((f2:Int),(l2:Int))],())))=some ((st0++[((n:Int),((n+1:Nat):Int))],()),(nf (n+2) (E++[fE n f1,fE l1 (n+1),fE n f2,fE l2 (n+1)]),())):=by
 obtain⟨g1,g2,g3,g4⟩:=tO (st0:=st0) (a:=((f1:Int),(l1:Int))) (b:=((f2:Int),(l2:Int))) (by omega)
 have hl:(st0++[((f1:Int),(l1:Int)),((f2:Int),(l2:Int))]).length=st0.length+2:=by rw[List.length_append];rfl
 unfold kF
 simp only[kR hn,aX]
 refine av ((nf (n+2) (E++[fE n f1,fE l1 (n+1),fE n f2,fE l2 (n+1)]),(st0++[((f1:Int),(l1:Int)),((f2:Int),(l2:Int))],())),()) (λK=>?_) ?_
 ·simp only[aY,show decide ((3:Int)=0)=false from rfl,show decide ((3:Int)=1)=false from rfl,show decide ((3:Int)=2)=false from rfl,decide_true,cond_false,cond_true,g1]
  rw[if_pos ⟨by omega,by omega,by omega⟩]
  refine aJ (λm x q=>((m=2/\x=((nf (n+2) E,(st0++[((f1:Int),(l1:Int)),((f2:Int),(l2:Int))],())),((0:Int),())))\/(m=1/\x=((nf (n+2) (E++[fE n f1,fE l1 (n+1)]),(st0++[((f1:Int),(l1:Int)),((f2:Int),(l2:Int))],())),((1:Int),())))\/(m=0/\x=((nf (n+2) (E++[fE n f1,fE l1 (n+1),fE n f2,fE l2 (n+1)]),(st0++[((f1:Int),(l1:Int)),((f2:Int),(l2:Int))],())),((2:Int),()))))/\q=K ((nf (n+2) (E++[fE n f1,fE l1 (n+1),fE n f2,fE l2 (n+1)]),(st0++[((f1:Int),(l1:Int)),((f2:Int),(l2:Int))],())),())) ?_ N0 2 _ _ (by unfold N0;omega) ⟨.inl ⟨rfl,rfl⟩,rfl⟩
  have evL:l5 ((st0.length:Nat):Int) (((st0++[((f1:Int),(l1:Int)),((f2:Int),(l2:Int))]).length:Nat):Int)=2:=by unfold l5;omega
  rintro m x q ⟨hx,rfl⟩ k hk
  rcases hx with⟨rfl,rfl⟩|⟨rfl,rfl⟩|⟨rfl,rfl⟩
  ·have e1:rN 0 ((st0.length:Nat):Int) (((st0++[((f1:Int),(l1:Int)),((f2:Int),(l2:Int))]).length:Nat):Int)=true:=by unfold rN;simp;omega
   have e2:iG ((st0.length:Nat):Int) 0=((st0.length:Nat):Int):=by unfold iG;simp
   have n0:(0:Int)<=((st0.length:Nat):Int):=by omega
   have w1:IntKind.wrap .i64 ((0:Int)+1)=1:=bc (by omega) (by omega)
   simp only[evL,e1,e2,show decide ((0:Int)<2)=true from rfl,cond_true]
   rw[if_pos n0,Int.toNat_natCast,g3]
   simp only
   rw[aa (cW (by omega) _ _ _)]
   simp only
   rw[aa (cW (by simp;omega) _ _ _),w1,List.append_assoc]
   exact hk 1 _ _ (by omega) ⟨.inr (.inl ⟨rfl,rfl⟩),rfl⟩
  ·have e1:rN 1 ((st0.length:Nat):Int) (((st0++[((f1:Int),(l1:Int)),((f2:Int),(l2:Int))]).length:Nat):Int)=true:=by unfold rN;simp;omega
   have e2:iG ((st0.length:Nat):Int) 1=((st0.length+1:Nat):Int):=by unfold iG;simp
   have n0:(0:Int)<=((st0.length+1:Nat):Int):=by omega
   have w1:IntKind.wrap .i64 ((1:Int)+1)=2:=bc (by omega) (by omega)
   simp only[evL,e1,e2,show decide ((1:Int)<2)=true from rfl,cond_true]
   rw[if_pos n0,Int.toNat_natCast,g4]
   simp only
   rw[aa (cW (by simp;omega) _ _ _)]
   simp only
   rw[aa (cW (by simp;omega) _ _ _),w1]
   simp only[List.append_assoc,List.cons_append,List.nil_append]
   exact hk 0 _ _ (by omega) ⟨.inr (.inr ⟨rfl,rfl⟩),rfl⟩
  ·simp only[evL,show decide ((2:Int)<2)=false from rfl,cond_false]
 ·obtain⟨h1,h2,h3,h4,h5⟩:=od (st0:=st0) (ch:=[((f1:Int),(l1:Int)),((f2:Int),(l2:Int))]) (by rw[List.length_append];show st0.length+2<=_;omega) (k:=2) rfl ((n:Int),((n+1:Nat):Int))
  simp only
  rw[aa (eL (k:=3) (by decide))]
  have e:bq 3=2:=rfl
  simp only[e,h1]
  rw[if_pos h2,h3,if_pos h4,if_pos h5]
theorem Cm{n:Nat}(hn:n<=100000){E:List Ed}(hE:E.length<=10000){st0:List (Int×Int)}(hst:st0.length<=90000){k:Int}(hk:k=4\/k=5\/k=6)(f1 l1:Nat):
 kF N0 (nf n E,((k,zS),(st0++[((f1:Int),(l1:Int))],())))=some ((st0++[((n:Int),((n+1:Nat):Int))],()),(nf (n+2) (E++([fE n f1,fE l1 (n+1)]++(if k=6 then []else [fE l1 f1])++(if k=5 then []else [fE n (n+1)]))),())):=by
 have hl:(st0++[((f1:Int),(l1:Int))]).length=st0.length+1:=by rw[List.length_append];rfl
 have g1:IntKind.wrap .i64 ((((st0++[((f1:Int),(l1:Int))]).length:Nat):Int)-1)=((st0.length:Nat):Int):=by
  have:((((st0++[((f1:Int),(l1:Int))]).length:Nat):Int)-1)=((st0.length:Nat):Int):=by omega
  rw[this];exact aL (by omega)
 have g2:(st0++[((f1:Int),(l1:Int))])[st0.length]?=some ((f1:Int),(l1:Int)):=by simp
 have n0:(0:Int)<=((st0.length:Nat):Int):=by omega
 unfold kF
 simp only[kR hn,aX]
 refine av ((nf (n+2) (E++([fE n f1,fE l1 (n+1)]++(if k=6 then []else [fE l1 f1])++(if k=5 then []else [fE n (n+1)]))),(st0++[((f1:Int),(l1:Int))],())),()) (λK=>?_) ?_
 ·have q0:decide (k=0)=false:=decide_eq_false (by omega)
  have q1:decide (k=1)=false:=decide_eq_false (by omega)
  have q2:decide (k=2)=false:=decide_eq_false (by omega)
  have q3:decide (k=3)=false:=decide_eq_false (by omega)
  simp only[aY,q0,q1,q2,q3,cond_false,g1]
  rw[if_pos n0,Int.toNat_natCast,g2]
  simp only
  rw[aa (cW (by omega) _ _ _)]
  simp only
  rw[aa (cW (by simp;omega) _ _ _)]
  simp only
  rcases hk with rfl|rfl|rfl
  ·simp only[show decide ((4:Int)=6)=false from rfl,show decide ((4:Int)=5)=false from rfl,Bool.not_false,cond_true]
   rw[aa (cW (by simp;omega) _ _ _)]
   simp only
   rw[aa (cW (by simp;omega) _ _ _)]
   simp
  ·simp only[show decide ((5:Int)=6)=false from rfl,decide_true,Bool.not_false,Bool.not_true,cond_true,cond_false]
   rw[aa (cW (by simp;omega) _ _ _)]
   simp
  ·simp only[show decide ((6:Int)=5)=false from rfl,decide_true,Bool.not_false,Bool.not_true,cond_true,cond_false]
   rw[aa (cW (by simp;omega) _ _ _)]
   simp
 ·obtain⟨h1,h2,h3,h4,h5⟩:=od (st0:=st0) (ch:=[((f1:Int),(l1:Int))]) (by omega) (k:=1) rfl ((n:Int),((n+1:Nat):Int))
  simp only
  have e:bq k=1:=by rcases hk with rfl|rfl|rfl <;> rfl
  rw[aa (eL (k:=k) (by omega))]
  simp only[e,h1]
  rw[if_pos h2,h3,if_pos h4,if_pos h5]
end
noncomputable section
theorem dU:∀ (t:Rx) (n:Nat),(t.ah n).length<=4*t.len:=by
 intro t
 induction t with
 |eps=>intro n;simp[Rx.ah,Rx.len]
 |set S=>intro n;simp[Rx.ah,Rx.len]
 |cat a b iha ihb=>
  intro n
  have h1:=iha n
  have h2:=ihb (n+2*a.len)
  simp only[Rx.ah,Rx.len,List.length_append,List.length_cons,List.length_nil]
  omega
 |alt a b iha ihb=>
  intro n
  have h1:=iha n
  have h2:=ihb (n+2*a.len)
  simp only[Rx.ah,Rx.len,List.length_append,List.length_cons,List.length_nil]
  omega
 |rep k a ih=>
  intro n
  have h1:=ih n
  simp only[Rx.ah,Rx.len,List.length_append,List.length_cons,List.length_nil]
  split <;> split <;> simp <;> omega
abbrev OfS:=(NfI×(NfI×Unit))×(List (Int×Int)×(Int×Unit))
abbrev OfR:=(NfI×(Int×Unit))×Unit
def stB(r:List Pc):OfS->(OfS->Option OfR)->Option OfR:=λv4 v5=>
 (bif decide (v4.2.2.1<((r.length:Nat):Int))then(if 0<=v4.2.2.1 then(match r[(v4.2.2.1).toNat]? with|some v6=>(af (kF N0 (v4.1.2.1,(v6,(v4.2.1,())))) λv7=>v5 ((v4.1.1,(v7.2.1,())),(v7.1.1,(IntKind.wrap .i64 (v4.2.2.1+1),()))))|none=>none)else none)
 else(if(0:Int)<=0 then(match v4.2.1[((0:Int)).toNat]? with|some v8=>(if(0:Int)<=0 then(match v4.2.1[((0:Int)).toNat]? with|some v9=>some (((v4.1.2.1.1,(v4.1.2.1.2.1,(v8.1,v9.2))),(0,())),())|none=>none)else none)|none=>none)else none))
def pr(f l:Nat):Int×Int:=((f:Int),(l:Int))
theorem kS{r:List Pc}(hr:r.length<=100000)(F i:Nat)(p:Pc)(hp:r[i]?=some p){Z M M':NfI}{st st':List (Int×Int)}(h:kF N0 (M,(p,(st,())))=some ((st',()),(M',()))):
 aq (stB r) (F+1) ((Z,(M,())),(st,((i:Int),())))=aq (stB r) F ((Z,(M',())),(st',(((i+1:Nat):Int),()))):=by
 have hi:i<r.length:=by
  rcases Nat.lt_or_ge i r.length with h|h
  ·exact h
  ·rw[List.getElem?_eq_none h]at hp;cases hp
 rw[bP]
 unfold stB
 simp only
 have n0:(0:Int)<=(i:Int):=by omega
 rw[decide_eq_true (show(i:Int)<((r.length:Nat):Int) by omega),cond_true,if_pos n0,Int.toNat_natCast,hp]
 simp only
 rw[aa h]
 simp only[bf (show i+1<9223372036854775808 by omega)]
theorem E3{r:List Pc}(hr:r.length<=100000){Z:NfI}:∀ (t:Rx) (F n:Nat) (E:List Ed) (st:List (Int×Int)) (l rest:List Pc),t.ok->r=l++t.post++rest->n+2*t.len<=100000->E.length+4*t.len<=10000->st.length+t.len<=90000->
 aq (stB r) (F+t.len) ((Z,(nf n E,())),(st,((l.length:Int),())))=aq (stB r) F ((Z,(nf (n+2*t.len) (E++t.ah n),())),(st++[pr (t.fst n) (t.lst n)],(((l.length+t.len:Nat):Int),()))):=by
 intro t
 induction t with
 |eps=>
  intro F n E st l rest _ hr2 hn hE hst
  simp only[Rx.len]at hn hE hst |-
  have hp:r[l.length]?=some (0,zS):=by rw[hr2];simp[Rx.post]
  rw[kS hr F l.length _ hp (Cj (by omega) (by omega) (by omega))]
  have e1:Rx.fst .eps n=n:=by simp only[Rx.fst,Rx.len];omega
  have e2:Rx.lst .eps n=n+1:=by simp only[Rx.lst,Rx.len];omega
  rw[e1,e2]
  rfl
 |set S=>
  intro F n E st l rest _ hr2 hn hE hst
  simp only[Rx.len]at hn hE hst |-
  have hp:r[l.length]?=some (1,S):=by rw[hr2];simp[Rx.post]
  rw[kS hr F l.length _ hp (Ci (by omega) (by omega) S (by omega))]
  have e1:Rx.fst (.set S) n=n:=by simp only[Rx.fst,Rx.len];omega
  have e2:Rx.lst (.set S) n=n+1:=by simp only[Rx.lst,Rx.len];omega
  rw[e1,e2]
  rfl
 |cat a b iha ihb=>
  intro F n E st l rest hok hr2 hn hE hst
  simp only[Rx.len]at hn hE hst |-
  have pa:=a.aN
  have pb:=b.aN
  have la:=dU a n
  have lb:=dU b (n+2*a.len)
  have hp:r[l.length+a.len+b.len]?=some (2,zS):=by
   rw[hr2]
   simp[Rx.post,<-a.az,<-b.az,Nat.add_assoc]
  rw[show F+(a.len+b.len+1)=(F+1+b.len)+a.len by omega,iha (F+1+b.len) n E st l (b.post++[(2,zS)]++rest) hok.1 (by rw[hr2];simp[Rx.post]) (by omega) (by omega) (by omega)]
  have hb:=ihb (F+1) (n+2*a.len) (E++a.ah n) (st++[pr (a.fst n) (a.lst n)]) (l++a.post) ([(2,zS)]++rest) hok.2 (by rw[hr2];simp[Rx.post]) (by omega) (by rw[List.length_append];omega) (by rw[List.length_append,List.length_singleton];omega)
  rw[List.length_append,a.az]at hb
  have e0:st++[pr (a.fst n) (a.lst n)]++[pr (b.fst (n+2*a.len)) (b.lst (n+2*a.len))]=st++[(((a.fst n:Nat):Int),((a.lst n:Nat):Int)),(((b.fst (n+2*a.len):Nat):Int),((b.lst (n+2*a.len):Nat):Int))]:=by
   rw[List.append_assoc];rfl
  rw[e0]at hb
  rw[hb,kS hr F _ _ hp (Ck (by omega) (by rw[List.length_append,List.length_append];omega) (by omega) _ _ _ _)]
  have e1:(Rx.cat a b).fst n=n+2*a.len+2*b.len:=by simp only[Rx.fst,Rx.len];omega
  have e2:(Rx.cat a b).lst n=n+2*a.len+2*b.len+1:=by simp only[Rx.lst,Rx.len];omega
  have e3:E++a.ah n++b.ah (n+2*a.len)++[fE (n+2*a.len+2*b.len) (a.fst n),fE (a.lst n) (b.fst (n+2*a.len)),fE (b.lst (n+2*a.len)) (n+2*a.len+2*b.len+1)]=E++(Rx.cat a b).ah n:=by
   simp only[Rx.ah,List.append_assoc]
   rw[show n+2*(a.len+b.len)=n+2*a.len+2*b.len by omega]
  rw[e1,e2,e3,show n+2*a.len+2*b.len+2=n+2*(a.len+b.len+1) by omega,show l.length+a.len+b.len+1=l.length+(a.len+b.len+1) by omega]
  rfl
 |alt a b iha ihb=>
  intro F n E st l rest hok hr2 hn hE hst
  simp only[Rx.len]at hn hE hst |-
  have pa:=a.aN
  have pb:=b.aN
  have la:=dU a n
  have lb:=dU b (n+2*a.len)
  have hp:r[l.length+a.len+b.len]?=some (3,zS):=by
   rw[hr2]
   simp[Rx.post,<-a.az,<-b.az,Nat.add_assoc]
  rw[show F+(a.len+b.len+1)=(F+1+b.len)+a.len by omega,iha (F+1+b.len) n E st l (b.post++[(3,zS)]++rest) hok.1 (by rw[hr2];simp[Rx.post]) (by omega) (by omega) (by omega)]
  have hb:=ihb (F+1) (n+2*a.len) (E++a.ah n) (st++[pr (a.fst n) (a.lst n)]) (l++a.post) ([(3,zS)]++rest) hok.2 (by rw[hr2];simp[Rx.post]) (by omega) (by rw[List.length_append];omega) (by rw[List.length_append,List.length_singleton];omega)
  rw[List.length_append,a.az]at hb
  have e0:st++[pr (a.fst n) (a.lst n)]++[pr (b.fst (n+2*a.len)) (b.lst (n+2*a.len))]=st++[(((a.fst n:Nat):Int),((a.lst n:Nat):Int)),(((b.fst (n+2*a.len):Nat):Int),((b.lst (n+2*a.len):Nat):Int))]:=by
   rw[List.append_assoc];rfl
  rw[e0]at hb
  rw[hb,kS hr F _ _ hp (Cl (by omega) (by rw[List.length_append,List.length_append];omega) (by omega) _ _ _ _)]
  have e1:(Rx.alt a b).fst n=n+2*a.len+2*b.len:=by simp only[Rx.fst,Rx.len];omega
  have e2:(Rx.alt a b).lst n=n+2*a.len+2*b.len+1:=by simp only[Rx.lst,Rx.len];omega
  have e3:E++a.ah n++b.ah (n+2*a.len)++[fE (n+2*a.len+2*b.len) (a.fst n),fE (a.lst n) (n+2*a.len+2*b.len+1),fE (n+2*a.len+2*b.len) (b.fst (n+2*a.len)),fE (b.lst (n+2*a.len)) (n+2*a.len+2*b.len+1)]=E++(Rx.alt a b).ah n:=by
   simp only[Rx.ah,List.append_assoc]
   rw[show n+2*(a.len+b.len)=n+2*a.len+2*b.len by omega]
  rw[e1,e2,e3,show n+2*a.len+2*b.len+2=n+2*(a.len+b.len+1) by omega,show l.length+a.len+b.len+1=l.length+(a.len+b.len+1) by omega]
  rfl
 |rep k a iha=>
  intro F n E st l rest hok hr2 hn hE hst
  simp only[Rx.len]at hn hE hst |-
  have la:=dU a n
  have hp:r[l.length+a.len]?=some (k,zS):=by
   rw[hr2]
   simp[Rx.post,<-a.az]
  rw[show F+(a.len+1)=(F+1)+a.len by omega,iha (F+1) n E st l ([(k,zS)]++rest) hok.2 (by rw[hr2];simp[Rx.post]) (by omega) (by omega) (by omega),show st++[pr (a.fst n) (a.lst n)]=st++[(((a.fst n:Nat):Int),((a.lst n:Nat):Int))]from rfl,
   kS hr F _ _ hp (Cm (by omega) (by rw[List.length_append];omega) (by omega) hok.1 _ _)]
  have e1:(Rx.rep k a).fst n=n+2*a.len:=by simp only[Rx.fst,Rx.len];omega
  have e2:(Rx.rep k a).lst n=n+2*a.len+1:=by simp only[Rx.lst,Rx.len];omega
  have e3:E++a.ah n++([fE (n+2*a.len) (a.fst n),fE (a.lst n) (n+2*a.len+1)]++(if k=6 then []else [fE (a.lst n) (a.fst n)])++(if k=5 then []else [fE (n+2*a.len) (n+2*a.len+1)]))=E++(Rx.rep k a).ah n:=by
   simp only[Rx.ah,List.append_assoc]
  rw[e1,e2,e3,show n+2*a.len+2=n+2*(a.len+1) by omega,show l.length+a.len+1=l.length+(a.len+1) by omega]
  rfl
def nfT(t:Rx):NfI:=(((2*t.len:Nat):Int),((t.ah 0).map edI,(((t.fst 0:Nat):Int),((t.lst 0:Nat):Int))))
theorem E4{t:Rx}(hok:t.ok)(hl:t.len<=400):Ef N0 (t.post,())=some ((nfT t,(0,())),()):=by
 have tl:=t.az
 have h:=E3 (r:=t.post) (by omega) (Z:=nf 0 []) t (N0-t.len) 0 [] [] [] [] hok (by simp) (by omega) (by simp;omega) (by simp;omega)
 rw[show N0-t.len+t.len=N0 by unfold N0;omega]at h
 unfold Ef
 simp only
 rw[aa (E0 hok hl)]
 simp only
 rw[decide_true,Bool.not_true,cond_false]
 refine Eq.trans h ?_
 obtain⟨q,hq⟩:∃ q,N0-t.len=q+1:=⟨N0-t.len-1,by unfold N0;omega⟩
 rw[hq,bP]
 unfold stB
 simp only
 have e:((([]:List Pc).length+t.len:Nat):Int)=((t.post.length:Nat):Int):=by rw[tl];simp
 rw[e,decide_eq_false (show ¬((t.post.length:Nat):Int)<((t.post.length:Nat):Int) by omega),cond_false,if_pos z0,List.nil_append,tL]
 simp only
 rw[if_pos z0,List.nil_append,Nat.zero_add]
 rfl
end
noncomputable section
def bsN(n:Nat)(f:Nat->Bool):List Bool:=(List.range n).map f
theorem ew(n:Nat)(f:Nat->Bool):(bsN n f).length=n:=by simp[bsN]
theorem ez{n:Nat}(f:Nat->Bool){i:Nat}(h:i<n):(bsN n f)[i]?=some (f i):=by
 unfold bsN
 rw[List.getElem?_map,List.getElem?_range h]
 rfl
theorem qS{n:Nat}(f:Nat->Bool){i:Nat}(h:i<n):(bsN n f).set i true=bsN n (λx=>f x||decide (x=i)):=by
 apply List.ext_getElem?
 intro j
 rw[List.getElem?_set]
 by_cases hj:j<n
 ·have g1:=ez (n:=n) (λx=>f x||decide (x=i)) hj
  have g2:=ez (n:=n) f hj
  rw[g1,g2]
  by_cases e:i=j
  ·subst e
   rw[if_pos rfl,if_pos (by rw[ew];exact h)]
   simp
  ·rw[if_neg e]
   have:¬j=i:=λh=>e h.symm
   simp[this]
 ·have e1:(bsN n λx=>f x||decide (x=i))[j]?=none:=List.getElem?_eq_none (by rw[ew];omega)
  have e2:(bsN n f)[j]?=none:=List.getElem?_eq_none (by rw[ew];omega)
  rw[e1,e2,if_neg (by omega)]
def cnt(f:Nat->Bool):Nat->Nat
 |0=>0
 |n+1=>(if f n then 0 else 1)+cnt f n
theorem cnt_mono{f g:Nat->Bool}:∀ n,(∀ i,i<n->f i=true->g i=true)->cnt g n<=cnt f n:=by
 intro n
 induction n with
 |zero=>intro _;exact Nat.le_refl _
 |succ n ih=>
  intro h
  have h1:=ih λi hi=>h i (by omega)
  have h2:=h n (by omega)
  simp only[cnt]
  cases hf:f n
  ·cases hg:g n <;> simp <;> omega
  ·rw[h2 hf];simp;exact h1
theorem cnt_lt{f g:Nat->Bool}{q:Nat}:∀ n,(∀ i,i<n->f i=true->g i=true)->q<n->f q=false->g q=true->cnt g n<cnt f n:=by
 intro n
 induction n with
 |zero=>intro _ h;omega
 |succ n ih=>
  intro h hq hf hg
  simp only[cnt]
  by_cases e:q=n
  ·subst e
   have h1:=cnt_mono q λi hi=>h i (by omega)
   rw[hf,hg]
   simp
   omega
  ·have h1:=ih (λi hi=>h i (by omega)) (by omega) hf hg
   have h2:=h n (by omega)
   cases hf2:f n
   ·cases hg2:g n <;> simp <;> omega
   ·rw[h2 hf2];simp;exact h1
def iw(E:List Ed)(f:Nat->Bool):Prop:=∀ e∈E,e.2.2.2=true->f e.1=true->f e.2.1=true
def InE(n:Nat)(E:List Ed):Prop:=∀ e∈E,e.1<n/\e.2.1<n
def leB(f g:Nat->Bool):Prop:=∀ i,f i=true->g i=true
def dH(E:List Ed)(f g:Nat->Bool):Prop:=leB f g/\iw E g/\∀ D,iw E D->leB f D->leB g D
theorem mK{n:Nat}(hn:n<=100000){E:List Ed}(hE:E.length<=100000)(hin:InE n E)(X:Int×Int)(f0:Nat->Bool):
 ∃ g,BA N0 (((n:Int),(E.map edI,X)),(bsN n f0,()))=some ((bsN n g,()),())/\dH E f0 g:=by
 unfold BA
 simp only
 have hcp:cpL (List.replicate ((n:Int)).toNat false) (bsN n f0)=bsN n f0:=by
  unfold cpL
  simp[ew]
  exact List.take_of_length_le (by rw[ew];exact Nat.le_refl _)
 rw[if_pos (show(0:Int)<=(n:Int)/\(n:Int)<=(n:Int) by omega),if_pos (show((n:Int)).toNat*1<=140737488355328 by rw[Int.toNat_natCast];omega),hcp]
 refine bL (λm x=>∃ (f:Nat->Bool) (c:Bool),x=((bsN n f,()),(c,()))/\leB f0 f/\(∀ D,iw E D->leB f0 D->leB f D)/\(c=false->iw E f)/\m=cnt f n+(if c=true then 1 else 0)) (λz=>∃ g,z=some ((bsN n g,()),())/\dH E f0 g) ?_ N0 (cnt f0 n+1) _ ?_ ⟨f0,true,rfl,λi h=>h,λD _ h=>h,(λh=>by cases h),rfl⟩
 ·rintro m x ⟨f,c,rfl,h1,h2,h3,hm⟩ k hk
  simp only
  cases c
  ·rw[cond_false]
   exact⟨f,rfl,h1,h3 rfl,h2⟩
  ·rw[cond_true]
   simp only[if_true]at hm
   refine bL (λm2 x=>∃ (j:Nat) (g:Nat->Bool) (c:Bool),x=((bsN n g,()),(c,((j:Int),())))/\m2+j=E.length/\leB f g/\(∀ D,iw E D->leB f0 D->leB g D)/\(c=false->g=f/\∀ (i:Nat) e,i<j->E[i]?=some e->e.2.2.2=true->f e.1=true->f e.2.1=true)/\(c=true->cnt g n<cnt f n)) (λz=>∃ g,z=some ((bsN n g,()),())/\dH E f0 g) ?_ N0 E.length _ (by unfold N0;omega) ⟨0,f,false,rfl,rfl,λi h=>h,h2,λ_=>⟨rfl,λi e hi=>by omega⟩,(λh=>by cases h)⟩
   rintro m2 x ⟨j,g,c,rfl,hmj,q1,q2,q3,q4⟩ k2 hk2
   simp only
   rcases Nat.lt_or_ge j E.length with hj|hj
   ·have n0:(0:Int)<=(j:Int):=by omega
    have hj2:(E.map edI)[j]?=some (edI E[j]):=by rw[List.getElem?_map,List.getElem?_eq_getElem hj];rfl
    have fi:E[j]∈E:=List.getElem_mem hj
    obtain⟨r1,r2⟩:=hin _ fi
    have eg:E[j]?=some E[j]:=List.getElem?_eq_getElem hj
    generalize E[j]=e at hj2 fi r1 r2 eg
    rw[decide_eq_true (show(j:Int)<(((E.map edI).length:Nat):Int) by rw[List.length_map];omega),cond_true,if_pos n0,Int.toNat_natCast,hj2]
    have n1:(0:Int)<=(e.1:Int):=by omega
    have n2:(0:Int)<=(e.2.1:Int):=by omega
    have w1:IntKind.wrap .i64 ((j:Int)+1)=((j+1:Nat):Int):=bf (by omega)
    simp only[edI,w1]
    refine bW (P:=λz=>∃ g,z=some ((bsN n g,()),())/\dH E f0 g) ((bsN n g,()),(e.2.2.2&&(g e.1&&!g e.2.1),())) (λK=>?_) ?_
    ·cases e.2.2.2
     ·rfl
     ·rw[cond_true,if_pos n1,Int.toNat_natCast,ez g r1]
      simp only
      cases g e.1
      ·rfl
      ·rw[cond_true,if_pos n2,Int.toNat_natCast,ez g r2]
       rfl
    ·simp only
     refine bW (P:=λz=>∃ g,z=some ((bsN n g,()),())/\dH E f0 g) ((bsN n (λx=>g x||(decide (x=e.2.1)&&(e.2.2.2&&(g e.1&&!g e.2.1)))),()),((c||(e.2.2.2&&(g e.1&&!g e.2.1))),())) (λK=>?_) ?_
     ·cases hb:(e.2.2.2&&(g e.1&&!g e.2.1))
      ·rw[cond_false]
       simp
      ·rw[cond_true,if_pos n2,Int.toNat_natCast,ez g r2]
       simp only
       rw[if_pos n2]
       rw[qS g r2]
       simp
     ·simp only
      refine hk2 (m2-1) _ (by omega) ⟨j+1,_,_,rfl,by omega,?_,?_,?_,?_⟩
      ·intro i hi
       show(g i||_)=true
       rw[q1 i hi];rfl
      ·intro D hD1 hD2 i hi
       rw[Bool.or_eq_true,Bool.and_eq_true,decide_eq_true_eq,Bool.and_eq_true,Bool.and_eq_true]at hi
       rcases hi with hi|⟨rfl,h4,h5,_⟩
       ·exact q2 D hD1 hD2 i hi
       ·exact hD1 e fi h4 (q2 D hD1 hD2 _ h5)
      ·intro hc
       rw[Bool.or_eq_false_iff]at hc
       obtain⟨hc1,hc2⟩:=hc
       obtain⟨rfl,q6⟩:=q3 hc1
       refine⟨?_,?_⟩
       ·funext x
        rw[hc2];simp
       ·intro i e2 hi he2 xe hp
        by_cases hij:i=j
        ·subst hij
         rw[eg]at he2
         injection he2 with he2
         subst he2
         rw[xe,hp]at hc2
         simpa using hc2
        ·exact q6 i e2 (by omega) he2 xe hp
      ·intro hc
       cases hb:(e.2.2.2&&(g e.1&&!g e.2.1))
       ·rw[hb,Bool.or_false]at hc
        refine Nat.lt_of_le_of_lt (cnt_mono n λi _ h=>?_) (q4 hc)
        rw[h];rfl
       ·have hb2:=hb
        rw[Bool.and_eq_true,Bool.and_eq_true,Bool.not_eq_true']at hb2
        have hlt:cnt (λx=>g x||(decide (x=e.2.1)&&true)) n<cnt g n:=cnt_lt (q:=e.2.1) n (λi _ h=>by simp[h]) r2 hb2.2.2 (by simp)
        have:cnt g n<=cnt f n:=cnt_mono n λi _ h=>q1 i h
        omega
   ·rw[decide_eq_false (show ¬(j:Int)<(((E.map edI).length:Nat):Int) by rw[List.length_map];omega),cond_false]
    refine hk (cnt g n+(if c=true then 1 else 0)) _ ?_ ⟨g,c,rfl,λi h=>q1 i (h1 i h),q2,?_,rfl⟩
    ·have:cnt g n<=cnt f n:=cnt_mono n λi _ h=>q1 i h
     cases c
     ·simp;omega
     ·have:=q4 rfl
      simp;omega
    ·intro hc
     obtain⟨rfl,q6⟩:=q3 hc
     intro e he xe hp
     obtain⟨i,hi,hie⟩:=List.getElem_of_mem he
     exact q6 i e (by omega) (by rw[List.getElem?_eq_getElem hi,hie]) xe hp
 ·have:∀ n,cnt f0 n<=n:=by
   intro n
   induction n with
   |zero=>exact Nat.le_refl _
   |succ n ih=>simp only[cnt];split <;> omega
  have:=this n
  unfold N0
  omega
end
noncomputable section
theorem lO(t:Rx):InE (2*t.len) (t.ah 0):=by
 intro e he
 obtain⟨h1,h2,h3,h4⟩:=t.bR 0 e he
 omega
theorem E5{n:Nat}(hn:n<=100000){E:List Ed}(hE:E.length<=100000)(hin:InE n E){a b:Nat}(ha:a<n)(hb:b<n):
 zd N0 (((n:Int),(E.map edI,((a:Int),(b:Int)))),())=some ((true,()),()):=by
 unfold zd
 simp only
 refine av ((),(false,())) (λK=>?_) ?_
 ·rw[decide_eq_false (show ¬(a:Int)<0 by omega),cond_false,decide_eq_false (show ¬(n:Int)<=(a:Int) by omega),cond_false,decide_eq_false (show ¬(b:Int)<0 by omega),cond_false,decide_eq_false (show ¬(n:Int)<=(b:Int) by omega)]
 ·simp only
  rw[cond_false]
  refine aJ (λm x q=>∃ j:Nat,x=((),((j:Int),()))/\m+j=E.length/\q=some ((true,()),())) ?_ N0 E.length _ _ (by unfold N0;omega) ⟨0,rfl,rfl,rfl⟩
  rintro m x q ⟨j,rfl,hm,rfl⟩ k hk
  simp only
  rcases Nat.lt_or_ge j E.length with hj|hj
  ·have n0:(0:Int)<=(j:Int):=by omega
   have hj2:(E.map edI)[j]?=some (edI E[j]):=by rw[List.getElem?_map,List.getElem?_eq_getElem hj];rfl
   obtain⟨r1,r2⟩:=hin _ (List.getElem_mem hj)
   generalize E[j]=e at hj2 r1 r2
   rw[decide_eq_true (show(j:Int)<(((E.map edI).length:Nat):Int) by rw[List.length_map];omega),cond_true,if_pos n0,Int.toNat_natCast,hj2]
   simp only
   refine av ((),(false,())) (λK=>?_) ?_
   ·rw[decide_eq_false (show ¬(e.1:Int)<0 by omega),cond_false,decide_eq_false (show ¬(n:Int)<=(e.1:Int) by omega),cond_false,decide_eq_false (show ¬(e.2.1:Int)<0 by omega),cond_false,decide_eq_false (show ¬(n:Int)<=(e.2.1:Int) by omega)]
   ·simp only
    rw[cond_false,bf (by omega)]
    exact hk (m-1) _ _ (by omega) ⟨j+1,rfl,by omega,rfl⟩
  ·rw[decide_eq_false (show ¬(j:Int)<(((E.map edI).length:Nat):Int) by rw[List.length_map];omega),cond_false]
theorem oe{t:Rx}(hl:t.len<=400):zd N0 (nfT t,())=some ((true,()),()):=by
 have h1:=t.jm 0
 have h2:=t.fU 0
 have h3:=dU t 0
 exact E5 (n:=2*t.len) (by omega) (by omega) (lO t) (by omega) (by omega)
def dI(E:List Ed):List (List Int):=(E.filter λe=>!e.2.2.2).map λe=>e.2.2.1
theorem lP(E:List Ed):(dI E).length<=E.length:=by
 unfold dI
 rw[List.length_map]
 exact List.length_filter_le _ _
theorem xf{n:Nat}{E:List Ed}(hE:E.length<=100000)(X:Int×Int):Eg N0 (((n:Int),(E.map edI,X)),())=some ((dI E,()),()):=by
 unfold Eg
 simp only
 refine aJ (λm x q=>∃ j:Nat,x=((),(dI (E.take j),((j:Int),())))/\m+j=E.length/\q=some ((dI E,()),())) ?_ N0 E.length _ _ (by unfold N0;omega) ⟨0,rfl,rfl,rfl⟩
 rintro m x q ⟨j,rfl,hm,rfl⟩ k hk
 simp only
 rcases Nat.lt_or_ge j E.length with hj|hj
 ·have n0:(0:Int)<=(j:Int):=by omega
  have hj2:(E.map edI)[j]?=some (edI E[j]):=by rw[List.getElem?_map,List.getElem?_eq_getElem hj];rfl
  have htk:E.take (j+1)=E.take j++[E[j]]:=by rw[List.take_add_one,List.getElem?_eq_getElem hj];rfl
  have hse:dI (E.take (j+1))=dI (E.take j)++dI [E[j]]:=by
   rw[htk];unfold dI;rw[List.filter_append,List.map_append]
  have hlen:(dI (E.take j)).length<=j:=Nat.le_trans (lP _) (by rw[List.length_take];omega)
  generalize E[j]=e at hj2 hse
  rw[decide_eq_true (show(j:Int)<(((E.map edI).length:Nat):Int) by rw[List.length_map];omega),cond_true,if_pos n0,Int.toNat_natCast,hj2]
  simp only
  refine av ((),(dI (E.take (j+1)),())) (λK=>?_) ?_
  ·rw[hse]
   cases hb:e.2.2.2
   ·have es:dI [e]=[e.2.2.1]:=by unfold dI;simp[hb]
    have c1:((dI (E.take j)).length+([e.2.2.1]:List (List Int)).length)*32<=140737488355328:=by simp;omega
    have c2:(dI (E.take j)).length+([e.2.2.1]:List (List Int)).length<=9223372036854775807:=by simp;omega
    rw[Bool.not_false,cond_true,if_pos c1,if_pos c2,es]
   ·have es:dI [e]=[]:=by unfold dI;simp[hb]
    rw[Bool.not_true,cond_false,es,List.append_nil]
  ·simp only
   rw[bf (by omega)]
   exact hk (m-1) _ _ (by omega) ⟨j+1,rfl,by omega,rfl⟩
 ·have hj2:j=E.length:=by omega
  rw[decide_eq_false (show ¬(j:Int)<(((E.map edI).length:Nat):Int) by rw[List.length_map];omega),cond_false,hj2,List.take_length]
end
noncomputable section
theorem E6{a b:Nat}(ha:a<18446744073709551616)(hb:b<18446744073709551616):bF .and .u64 (a:Int) (b:Int)=((a&&& b:Nat):Int):=by
 have hlt:a&&& b<2 ^ 64:=Nat.and_lt_two_pow _ hb
 simp only[bF,BitVec.toNat_and,lJ ha,lJ hb]
 exact wrap_u64 hlt
theorem E7(l:Nat->Bool){c:Nat}(h:c<256):ze N0 (ofB l,((c:Int),()))=some ((l c,()),()):=by
 unfold ze
 have hw:c / 64<4:=by omega
 have hl:c % 64<64:=Nat.mod_lt _ (by omega)
 have w1:IntKind.wrap .u8 (Int.tdiv (c:Int) 64)=((c / 64:Nat):Int):=by rw[BZ];exact fc (by omega)
 have g:=fB (l:=l) hw
 have n1:¬((64:Int)=0):=by omega
 have n2:¬(((c % 64:Nat):Int)<0):=by omega
 have n3:(0:Int)<=((c / 64:Nat):Int):=by omega
 simp only[w1,B0]
 rw[if_neg n1,if_pos n3,Int.toNat_natCast,g]
 simp only
 rw[if_neg n1,if_neg n2]
 have e1:Nat.min (Int.toNat ((c % 64:Nat):Int)) (IntKind.bits .u64)=c % 64:=by
  rw[Int.toNat_natCast];exact Nat.min_eq_left (by show c % 64<=64;omega)
 have hlt:=bT l (c / 64)
 have e2:Int.fdiv ((aI l (c / 64):Nat):Int) (2 ^ (c % 64))=((aI l (c / 64) / 2 ^ (c % 64):Nat):Int):=by
  rw[show(2:Int) ^ (c % 64)=((2 ^ (c % 64):Nat):Int) by simp]
  rw[Int.fdiv_eq_ediv_of_nonneg _ (Int.natCast_nonneg (2 ^ (c % 64)))]
  exact(Int.natCast_ediv _ _).symm
 have e3:bF .and .u64 ((aI l (c / 64) / 2 ^ (c % 64):Nat):Int) 1=((aI l (c / 64) / 2 ^ (c % 64) % 2:Nat):Int):=by
  have:=E6 (a:=aI l (c / 64) / 2 ^ (c % 64)) (b:=1) (Nat.lt_of_le_of_lt (Nat.div_le_self _ _) hlt) (by omega)
  rw[Nat.and_one_is_mod]at this
  exact this
 have hb:=bJ l (c / 64) (c % 64)
 rw[Nat.testBit_eq_decide_div_mod_eq,show 64*(c / 64)+c % 64=c by omega,decide_eq_true hl,Bool.true_and]at hb
 have e4:decide (((aI l (c / 64) / 2 ^ (c % 64) % 2:Nat):Int)=1)=l c:=by
  rw[<-hb,decide_eq_decide];omega
 rw[e1,e2,e3,e4]
def hasB(S:List Int)(c:Nat):Bool:=((S[c / 64]?).getD 0).toNat.testBit (c % 64)
theorem kT(l:Nat->Bool){c:Nat}(h:c<256):hasB (ofB l) c=l c:=by
 unfold hasB
 rw[fB (l:=l) (show c / 64<4 by omega)]
 show(((aI l (c / 64):Nat):Int).toNat).testBit (c % 64)=l c
 rw[Int.toNat_natCast,bJ,show 64*(c / 64)+c % 64=c by omega,decide_eq_true (show c % 64<64 by omega),Bool.true_and]
def pq(S:List Int):Prop:=S.length=4/\∀ x∈S,0<=x/\x<=18446744073709551615
theorem tP{S:List Int}(h:pq S){c:Nat}(hc:c<256):ze N0 (S,((c:Int),()))=some ((hasB S c,()),()):=by
 obtain⟨l,rfl⟩:=xd h.1 h.2
 rw[E7 l hc,kT l hc]
def aB(E:List Ed)(f:Nat->Bool)(c:Nat):Nat->Bool:=λx=>E.any λe=>!e.2.2.2&&(f e.1&&(hasB e.2.2.1 c&&decide (x=e.2.1)))
theorem Cn(t:Rx)(hok:t.ok):∀ (n:Nat),∀ e∈t.ah n,pq e.2.2.1:=by
 have hz:pq zS:=⟨rfl,by decide⟩
 induction t with
 |eps=>intro n e he;simp[Rx.ah,fE]at he;subst he;exact hz
 |set S=>intro n e he;simp[Rx.ah]at he;subst he;exact⟨hok.1,hok.2.2⟩
 |cat a b iha ihb=>
  intro n e he
  simp only[Rx.ah,List.mem_append,List.mem_cons,List.not_mem_nil,or_false]at he
  rcases he with(he|he)|he|he|he
  ·exact iha hok.1 n e he
  ·exact ihb hok.2 _ e he
  all_goals subst he;exact hz
 |alt a b iha ihb=>
  intro n e he
  simp only[Rx.ah,List.mem_append,List.mem_cons,List.not_mem_nil,or_false]at he
  rcases he with(he|he)|he|he|he|he
  ·exact iha hok.1 n e he
  ·exact ihb hok.2 _ e he
  all_goals subst he;exact hz
 |rep k a ih=>
  intro n e he
  simp only[Rx.ah,List.mem_append,List.mem_cons,List.not_mem_nil,or_false]at he
  rcases he with((he|he|he)|he)|he
  ·exact ih hok.2 n e he
  ·subst he;exact hz
  ·subst he;exact hz
  ·split at he
   ·simp at he
   ·simp only[List.mem_singleton]at he;subst he;exact hz
  ·split at he
   ·simp at he
   ·simp only[List.mem_singleton]at he;subst he;exact hz
theorem xg{n:Nat}(hn:n<=100000){E:List Ed}(hE:E.length<=100000)(hin:InE n E)(hS:∀ e∈E,pq e.2.2.1)(X:Int×Int)(f:Nat->Bool){c:Nat}(hc:c<256):
 Em N0 (((n:Int),(E.map edI,X)),(bsN n f,((c:Int),())))=some ((bsN n (aB E f c),()),()):=by
 unfold Em
 simp only
 have aK:List.replicate ((n:Int)).toNat false=bsN n (aB [] f c):=by
  rw[Int.toNat_natCast]
  unfold bsN aB
  apply List.ext_getElem?
  intro i
  rw[List.getElem?_map]
  by_cases hi:i<n
  ·rw[List.getElem?_range hi,List.getElem?_replicate,if_pos hi];rfl
  ·rw[List.getElem?_eq_none (by rw[List.length_replicate];omega),List.getElem?_eq_none (by rw[List.length_range];omega)];rfl
 rw[if_pos (show(0:Int)<=(n:Int)/\(n:Int)<=(n:Int) by omega),if_pos (show((n:Int)).toNat*1<=140737488355328 by rw[Int.toNat_natCast];omega),aK]
 refine aJ (λm x q=>∃ j:Nat,x=((bsN n (aB (E.take j) f c),()),((j:Int),()))/\m+j=E.length/\q=some ((bsN n (aB E f c),()),())) ?_ N0 E.length _ _ (by unfold N0;omega) ⟨0,rfl,rfl,rfl⟩
 rintro m x q ⟨j,rfl,hm,rfl⟩ k hk
 simp only
 rcases Nat.lt_or_ge j E.length with hj|hj
 ·have n0:(0:Int)<=(j:Int):=by omega
  have hj2:(E.map edI)[j]?=some (edI E[j]):=by rw[List.getElem?_map,List.getElem?_eq_getElem hj];rfl
  have htk:E.take (j+1)=E.take j++[E[j]]:=by rw[List.take_add_one,List.getElem?_eq_getElem hj];rfl
  obtain⟨r1,r2⟩:=hin _ (List.getElem_mem hj)
  have hse:=hS _ (List.getElem_mem hj)
  generalize E[j]=e at hj2 htk r1 r2 hse
  have hst:∀ x,aB (E.take (j+1)) f c x=(aB (E.take j) f c x||(!e.2.2.2&&(f e.1&&(hasB e.2.2.1 c&&decide (x=e.2.1))))):=by
   intro x
   rw[htk]
   unfold aB
   rw[List.any_append]
   simp
  have n1:(0:Int)<=(e.1:Int):=by omega
  have n2:(0:Int)<=(e.2.1:Int):=by omega
  rw[decide_eq_true (show(j:Int)<(((E.map edI).length:Nat):Int) by rw[List.length_map];omega),cond_true,if_pos n0,Int.toNat_natCast,hj2]
  simp only
  refine av ((bsN n (aB (E.take j) f c),()),((!e.2.2.2&&(f e.1&&hasB e.2.2.1 c)),())) (λK=>?_) ?_
  ·cases e.2.2.2
   ·rw[Bool.not_false,cond_true,decide_eq_true (show(e.1:Int)<(((bsN n f).length:Nat):Int) by rw[ew];omega),cond_true,if_pos n1,Int.toNat_natCast,ez f r1]
    simp only
    cases f e.1
    ·rfl
    ·rw[cond_true,aa (tP hse hc)]
     rfl
   ·rfl
  ·simp only
   have w1:IntKind.wrap .i64 ((j:Int)+1)=((j+1:Nat):Int):=bf (by omega)
   rw[w1]
   refine av ((bsN n (aB (E.take (j+1)) f c),()),()) (λK=>?_) ?_
   ·cases hb:(!e.2.2.2&&(f e.1&&hasB e.2.2.1 c))
    ·rw[cond_false]
     have:aB (E.take (j+1)) f c=aB (E.take j) f c:=by
      funext x
      rw[hst x]
      have:(!e.2.2.2&&(f e.1&&(hasB e.2.2.1 c&&decide (x=e.2.1))))=((!e.2.2.2&&(f e.1&&hasB e.2.2.1 c))&&decide (x=e.2.1)):=by simp[Bool.and_assoc]
      rw[this,hb];simp
     rw[this]
    ·rw[cond_true,if_pos n2,Int.toNat_natCast,ez _ r2]
     simp only
     rw[if_pos n2,qS _ r2]
     have:aB (E.take (j+1)) f c=λx=>aB (E.take j) f c x||decide (x=e.2.1):=by
      funext x
      rw[hst x]
      have:(!e.2.2.2&&(f e.1&&(hasB e.2.2.1 c&&decide (x=e.2.1))))=((!e.2.2.2&&(f e.1&&hasB e.2.2.1 c))&&decide (x=e.2.1)):=by simp[Bool.and_assoc]
      rw[this,hb];simp
     rw[this]
   ·simp only
    exact hk (m-1) _ _ (by omega) ⟨j+1,rfl,by omega,rfl⟩
 ·have hj2:j=E.length:=by omega
  rw[decide_eq_false (show ¬(j:Int)<(((E.map edI).length:Nat):Int) by rw[List.length_map];omega),cond_false,hj2,List.take_length]
end
noncomputable section
theorem tQ(l:Nat->Bool)(w:Nat):∃ n,n=iE (λi=>l (8*w+i)) 8:=⟨_,rfl⟩
def gS(l:Nat->Bool)(w:Nat):Nat:=Classical.choose (tQ l w)
theorem pt(l:Nat->Bool)(w:Nat):gS l w=iE (λi=>l (8*w+i)) 8:=Classical.choose_spec (tQ l w)
theorem Co(l:Nat->Bool)(w:Nat):gS l w<256:=by rw[pt];exact nZ _ 8
theorem eM(l:Nat->Bool)(w i:Nat):(gS l w).testBit i=(decide (i<8)&&l (8*w+i)):=by rw[pt];exact pe _ 8 i
theorem zw{l m:Nat->Bool}{w:Nat}(h:∀ i,i<8->l (8*w+i)=m (8*w+i)):gS l w=gS m w:=by
 apply Nat.eq_of_testBit_eq
 intro i
 rw[eM,eM]
 by_cases hi:i<8
 ·rw[h i hi]
 ·simp[hi]
theorem E8{l:Nat->Bool}{w i:Nat}(hi:i<8):gS l w|||2 ^ i=gS (λx=>l x||decide (x=8*w+i)) w:=by
 apply Nat.eq_of_testBit_eq
 intro j
 rw[Nat.testBit_or,eM,eM,Nat.testBit_two_pow]
 by_cases hj:j<8
 ·simp only[hj,decide_true,Bool.true_and]
  congr 1
  rw[decide_eq_decide];omega
 ·simp only[hj,decide_false,Bool.false_and,Bool.false_or,decide_eq_false_iff_not];omega
theorem xh{n:Nat}(h:n<256):(BitVec.ofInt (IntKind.bits .u8) (n:Int)).toNat=n:=by
 have:IntKind.bits .u8=8:=rfl
 rw[this,BitVec.toNat_ofInt]
 omega
theorem E9{a b:Nat}(ha:a<256)(hb:b<256):bF .or .u8 (a:Int) (b:Int)=((a|||b:Nat):Int):=by
 have hlt:a|||b<2 ^ 8:=Nat.or_lt_two_pow ha hb
 simp only[bF,BitVec.toNat_or,xh ha,xh hb]
 exact fc hlt
theorem xi{i:Nat}(h:i<8):2 ^ i<256:=Nat.lt_of_lt_of_le (Nat.pow_lt_pow_right (by omega) h) (by decide)
theorem tR{i:Nat}(h:i<8):IntKind.wrap .u8 ((1:Int)*2 ^ (Nat.min (Int.toNat (i:Int)) (IntKind.bits .u8)))=((2 ^ i:Nat):Int):=by
 have e:Nat.min (Int.toNat (i:Int)) (IntKind.bits .u8)=i:=by
  rw[Int.toNat_natCast];exact Nat.min_eq_left (by show i<=8;omega)
 rw[e,Int.one_mul]
 have:=fc (xi h)
 rw[<-this]
 congr 1
def dr(n:Nat)(l:Nat->Bool):List Int:=(List.range ((n+7) / 8)).map λw=>((gS l w:Nat):Int)
theorem kU(n:Nat)(l:Nat->Bool):(dr n l).length=(n+7) / 8:=by simp[dr]
theorem fX{n:Nat}(l:Nat->Bool){w:Nat}(h:w<(n+7) / 8):(dr n l)[w]?=some ((gS l w:Nat):Int):=by
 unfold dr
 rw[List.getElem?_map,List.getElem?_range h]
 rfl
theorem tS{n:Nat}(l:Nat->Bool){i:Nat}(h:i<n):(dr n l).set (i / 8) (bF .or .u8 ((gS l (i / 8):Nat):Int) ((2 ^ (i % 8):Nat):Int))=dr n (λx=>l x||decide (x=i)):=by
 have hi:i % 8<8:=Nat.mod_lt _ (by omega)
 rw[E9 (Co _ _) (xi hi),E8 hi,show 8*(i / 8)+i % 8=i by omega]
 apply List.ext_getElem?
 intro j
 rw[List.getElem?_set]
 by_cases hj:j<(n+7) / 8
 ·have g1:=fX (n:=n) (λx=>l x||decide (x=i)) hj
  have g2:=fX (n:=n) l hj
  rw[g1,g2]
  by_cases e:i / 8=j
  ·subst e
   rw[if_pos rfl,if_pos (by rw[kU];omega)]
  ·rw[if_neg e,zw (l:=l) (m:=λx=>l x||decide (x=i)) (w:=j) λk hk=>by
    have:¬8*j+k=i:=by omega
    simp[this]]
 ·have e1:(dr n λx=>l x||decide (x=i))[j]?=none:=List.getElem?_eq_none (by rw[kU];omega)
  have e2:(dr n l)[j]?=none:=List.getElem?_eq_none (by rw[kU];omega)
  rw[e1,e2,if_neg (by omega)]
theorem pu(n:Nat):List.replicate ((n+7) / 8) (0:Int)=dr n (λ_=>false):=by
 apply List.ext_getElem?
 intro j
 by_cases hj:j<(n+7) / 8
 ·rw[fX _ hj,List.getElem?_replicate,if_pos hj]
  have:gS (λ_=>false) j=0:=by
   apply Nat.eq_of_testBit_eq
   intro i
   rw[eM]
   simp
  rw[this];rfl
 ·rw[List.getElem?_eq_none (by rw[List.length_replicate];omega),List.getElem?_eq_none (by rw[kU];omega)]
theorem Cp{n:Nat}{l m:Nat->Bool}(h:dr n l=dr n m):∀ i,i<n->l i=m i:=by
 intro i hi
 have hw:i / 8<(n+7) / 8:=by omega
 have g:(dr n l)[i / 8]?=(dr n m)[i / 8]?:=by rw[h]
 rw[fX _ hw,fX _ hw]at g
 injection g with g
 have g:gS l (i / 8)=gS m (i / 8):=by omega
 have b1:=eM l (i / 8) (i % 8)
 have b2:=eM m (i / 8) (i % 8)
 rw[g,b2,show 8*(i / 8)+i % 8=i by omega,decide_eq_true (show i % 8<8 by omega),Bool.true_and,Bool.true_and]at b1
 exact b1.symm
theorem gT{n:Nat}{l m:Nat->Bool}(h:∀ i,l i=m i):dr n l=dr n m:=by
 have:l=m:=funext h
 rw[this]
theorem KO{n:Nat}(hn:n<=100000):IntKind.wrap .i64 (Int.tdiv (IntKind.wrap .i64 ((n:Int)+7)) 8)=(((n+7) / 8:Nat):Int):=by
 have e:(n:Int)+7=((n+7:Nat):Int):=by omega
 rw[e,aL (by omega),show(8:Int)=((8:Nat):Int) by rfl,<-Int.ofNat_tdiv]
 exact aL (by omega)
theorem td8(i:Nat)(h:i<=100000):IntKind.wrap .i64 (Int.tdiv (i:Int) 8)=((i / 8:Nat):Int):=by
 rw[show(8:Int)=((8:Nat):Int) by rfl,<-Int.ofNat_tdiv]
 exact aL (by omega)
theorem tm8(i:Nat):IntKind.wrap .u64 (Int.tmod (i:Int) 8)=((i % 8:Nat):Int):=by
 rw[show(8:Int)=((8:Nat):Int) by rfl,<-Int.ofNat_tmod]
 exact wrap_u64 (by omega)
def vH(n:Nat)(f:Nat->Bool):Nat->Bool:=λx=>decide (x<n)&&f x
theorem Fa{n:Nat}(hn:n<=100000)(f:Nat->Bool):Ej N0 (bsN n f,())=some ((dr n (vH n f),()),()):=by
 unfold Ej
 have n8:¬((8:Int)=0):=by omega
 simp only[ew,KO hn]
 rw[if_neg n8,if_pos ⟨by omega,by omega⟩,if_pos (by rw[Int.toNat_natCast];omega),Int.toNat_natCast,pu]
 have e0:dr n (λ_=>false)=dr n (λx=>decide (x<0)&&f x):=gT λi=>by simp
 rw[e0]
 refine aJ (λm x q=>∃ j:Nat,x=((dr n (λx=>decide (x<j)&&f x),()),((j:Int),()))/\m+j=n/\q=some ((dr n (vH n f),()),())) ?_ N0 n _ _ (by unfold N0;omega) ⟨0,rfl,rfl,rfl⟩
 rintro m x q ⟨j,rfl,hm,rfl⟩ k hk
 simp only
 rcases Nat.lt_or_ge j n with hj|hj
 ·have n0:(0:Int)<=(j:Int):=by omega
  have n1:(0:Int)<=((j / 8:Nat):Int):=by omega
  have n2:¬(((j % 8:Nat):Int)<0):=by omega
  have hw:j / 8<(n+7) / 8:=by omega
  have h8:j % 8<8:=Nat.mod_lt _ (by omega)
  rw[decide_eq_true (show(j:Int)<(n:Int) by omega),cond_true,if_pos n0,Int.toNat_natCast,ez f hj]
  simp only
  refine av ((dr n (λx=>decide (x<j+1)&&f x),()),()) (λK=>?_) ?_
  ·have est:∀ x,(decide (x<j+1)&&f x)=((decide (x<j)&&f x)||(decide (x=j)&&f j)):=by
    intro x
    by_cases hx:x=j
    ·subst hx
     have h1:¬x<x:=by omega
     have h2:x<x+1:=by omega
     simp[h1,h2]
    ·have:(x<j+1)↔(x<j):=by omega
     simp[this,hx]
   cases hb:f j
   ·rw[cond_false,gT (n:=n) (l:=λx=>decide (x<j+1)&&f x) (m:=λx=>decide (x<j)&&f x) λx=>by rw[est x,hb];simp]
   ·rw[cond_true,if_neg n8,td8 j (by omega),if_pos n1,Int.toNat_natCast,fX _ hw]
    simp only
    rw[if_neg n8,tm8,if_neg n2,if_pos n1]
    simp only[if_pos n1,tR h8]
    rw[tS _ hj,gT (n:=n) (l:=λx=>decide (x<j+1)&&f x) (m:=λx=>(decide (x<j)&&f x)||decide (x=j)) λx=>by rw[est x,hb];simp]
  ·simp only
   rw[bf (by omega)]
   exact hk (m-1) _ _ (by omega) ⟨j+1,rfl,by omega,rfl⟩
 ·have:j=n:=by omega
  subst this
  rw[decide_eq_false (show ¬(j:Int)<(j:Int) by omega),cond_false]
  rfl
end
noncomputable section
def inS(bE:List (List Int))(c:Nat)(x:Nat):Bool:=hasB ((bE[x]?).getD []) c
theorem Fc{bE:List (List Int)}(hn:bE.length<=100000)(hS:∀ S∈bE,pq S){c:Nat}(hc:c<256):Eh N0 (bE,((c:Int),()))=some ((dr bE.length (vH bE.length (inS bE c)),()),()):=by
 unfold Eh
 have n8:¬((8:Int)=0):=by omega
 simp only[KO hn]
 rw[if_neg n8,if_pos ⟨by omega,by omega⟩,if_pos (by rw[Int.toNat_natCast];omega),Int.toNat_natCast,pu]
 have e0:dr bE.length (λ_=>false)=dr bE.length (λx=>decide (x<0)&&inS bE c x):=gT λi=>by simp
 rw[e0]
 refine aJ (λm x q=>∃ j:Nat,x=((dr bE.length (λx=>decide (x<j)&&inS bE c x),()),((j:Int),()))/\m+j=bE.length/\q=some ((dr bE.length (vH bE.length (inS bE c)),()),())) ?_ N0 bE.length _ _ (by unfold N0;omega) ⟨0,rfl,rfl,rfl⟩
 rintro m x q ⟨j,rfl,hm,rfl⟩ k hk
 simp only
 rcases Nat.lt_or_ge j bE.length with hj|hj
 ·have n0:(0:Int)<=(j:Int):=by omega
  have n1:(0:Int)<=((j / 8:Nat):Int):=by omega
  have n2:¬(((j % 8:Nat):Int)<0):=by omega
  have hw:j / 8<(bE.length+7) / 8:=by omega
  have h8:j % 8<8:=Nat.mod_lt _ (by omega)
  have hj2:bE[j]?=some bE[j]:=List.getElem?_eq_getElem hj
  have hin:inS bE c j=hasB bE[j] c:=by unfold inS;rw[hj2];rfl
  have hok:=hS _ (List.getElem_mem hj)
  generalize bE[j]=S at hj2 hin hok
  rw[decide_eq_true (show(j:Int)<((bE.length:Nat):Int) by omega),cond_true,if_pos n0,Int.toNat_natCast,hj2]
  simp only
  rw[aa (tP hok hc),<-hin]
  simp only
  refine av ((dr bE.length (λx=>decide (x<j+1)&&inS bE c x),()),()) (λK=>?_) ?_
  ·have est:∀ x,(decide (x<j+1)&&inS bE c x)=((decide (x<j)&&inS bE c x)||(decide (x=j)&&inS bE c j)):=by
    intro x
    by_cases hx:x=j
    ·subst hx
     have h1:¬x<x:=by omega
     have h2:x<x+1:=by omega
     simp[h1,h2]
    ·have:(x<j+1)↔(x<j):=by omega
     simp[this,hx]
   cases hb:inS bE c j
   ·rw[cond_false,gT (n:=bE.length) (l:=λx=>decide (x<j+1)&&inS bE c x) (m:=λx=>decide (x<j)&&inS bE c x) λx=>by rw[est x,hb];simp]
   ·rw[cond_true,if_neg n8,td8 j (by omega),if_pos n1,Int.toNat_natCast,fX _ hw]
    simp only
    rw[if_neg n8,tm8,if_neg n2,if_pos n1]
    simp only[if_pos n1,tR h8]
    rw[tS _ hj,gT (n:=bE.length) (l:=λx=>decide (x<j+1)&&inS bE c x) (m:=λx=>(decide (x<j)&&inS bE c x)||decide (x=j)) λx=>by rw[est x,hb];simp]
  ·simp only
   rw[bf (by omega)]
   exact hk (m-1) _ _ (by omega) ⟨j+1,rfl,by omega,rfl⟩
 ·have:j=bE.length:=by omega
  subst this
  rw[decide_eq_false (show ¬((bE.length:Nat):Int)<((bE.length:Nat):Int) by omega),cond_false]
  rfl
end
noncomputable section
theorem Cq{α β:Type}(eq:α->α->Bool)(k:α)(v:β):∀ x:List (α×β),(dm eq k v x).length<=x.length+1:=by
 intro x
 induction x with
 |nil=>simp[dm]
 |cons p r ih=>
  simp only[dm]
  cases eq k p.1
  ·simp;exact ih
  ·simp
theorem vI(x:Int):0<=IntKind.wrap .u8 x/\IntKind.wrap .u8 x<=255:=by
 have h:=cz .u8 x
 exact⟨h.1,h.2⟩
def mh(arr:List Int):Prop:=arr.length=256/\∀ v∈arr,0<=v/\v<=255
theorem zx{arr:List Int}(h:mh arr)(i:Nat)(x:Int):mh (arr.set i (IntKind.wrap .u8 x)):=by
 refine⟨by rw[List.length_set];exact h.1,λv hv=>?_⟩
 rcases List.mem_or_eq_of_mem_set hv with hv|rfl
 ·exact h.2 v hv
 ·exact vI x
theorem xj{bE:List (List Int)}(hn:bE.length<=100000)(hS:∀ S∈bE,pq S):∃ arr,Ei N0 (bE,())=some ((arr,()),())/\mh arr:=by
 unfold Ei
 simp only
 have hz:mh (List.replicate 256 (0:Int)):=⟨List.length_replicate,λv hv=>by rw[List.mem_replicate]at hv;omega⟩
 generalize List.replicate 256 (0:Int)=zs at hz |-
 refine bL (λm x=>∃ (c:Nat) (arr:List Int) (mp:List (List Int×Int)),x=((zs,(arr,(mp,()))),((c:Int),()))/\m+c=256/\mh arr/\mp.length<=c) (λz=>∃ arr,z=some ((arr,()),())/\mh arr) ?_ N0 256 _ (by unfold N0;omega) ⟨0,zs,[],rfl,rfl,hz,Nat.le_refl _⟩
 rintro m x ⟨c,arr,mp,rfl,hm,ha,hmp⟩ k hk
 simp only
 rcases Nat.lt_or_ge c 256 with hc|hc
 ·have n0:(0:Int)<=(c:Int):=by omega
  obtain⟨v,hv⟩:∃ v,arr[c]?=some v:=⟨arr[c]'(by rw[ha.1];exact hc),List.getElem?_eq_getElem _⟩
  rw[decide_eq_true (show(c:Int)<256 by omega),cond_true,fc hc,aa (Fc hn hS hc)]
  simp only
  refine jq (P:=λz=>∃ arr,z=some ((arr,()),())/\mh arr) λK hK=>?_
  have go:∀ (mp':List (List Int×Int)) (y:Int),mp'.length<=c+1->∃ r,K ((zs,(arr,(mp',()))),(y,()))=some ((r,()),())/\mh r:=by
   intro mp' y hl
   rw[hK]
   simp only
   rw[if_pos n0,Int.toNat_natCast,hv]
   simp only
   rw[if_pos n0,bf (by omega)]
   exact hk (m-1) _ (by omega) ⟨c+1,_,mp',rfl,by omega,zx ha c y,hl⟩
  generalize dr bE.length (vH bE.length (inS bE c))=key
  cases hh:eF (λv10 v11=>decide (v10=v11)) key mp
  ·have Gk:p6 mp=true:=by
    unfold p6 maxLen
    rw[Nat.blt_eq]
    omega
   rw[Bool.not_false,cond_true,Gk,cond_true]
   exact go _ _ (Nat.le_trans (Cq _ _ _ _) (by omega))
  ·rw[Bool.not_true,cond_false]
   exact go _ _ (by omega)
 ·rw[decide_eq_false (show ¬(c:Int)<256 by omega),cond_false]
  exact⟨arr,rfl,ha⟩
end
noncomputable section
def mkL(n last:Nat):List Int:=(List.range n).map λq=>if q=last then 0 else -1
theorem xk(n last:Nat):(mkL n last).length=n:=by simp[mkL]
theorem xm{n:Nat}(last:Nat){i:Nat}(h:i<n):(mkL n last)[i]?=some (if i=last then 0 else -1):=by
 unfold mkL
 rw[List.getElem?_map,List.getElem?_range h]
 rfl
theorem Fe{n:Nat}(last:Nat){i:Nat}(h:i<n):Ek N0 (mkL n last,((i:Int),()))=some ((if i=last then 0 else -1,()),()):=by
 unfold Ek
 have n0:(0:Int)<=(i:Int):=by omega
 simp only
 rw[decide_eq_false (show ¬(((mkL n last).length:Nat):Int)<=(i:Int) by rw[xk];omega),cond_false,if_pos n0,Int.toNat_natCast,xm last h]
def dV(f:Nat->Bool)(last i:Nat):Int:=if f last=true/\last<i then 0 else -1
theorem Ff{n:Nat}(hn:n<=100000){last:Nat}(hl:last<n)(b)(hb:b.2.1=mkL n last)(f:Nat->Bool):El N0 (some b,(bsN n f,()))=some ((dV f last n,()),()):=by
 unfold El
 simp only[hb]
 refine aJ (λm x q=>∃ i:Nat,x=((),(dV f last i,((i:Int),())))/\m+i=n/\q=some ((dV f last n,()),())) ?_ N0 n _ _ (by unfold N0;omega) ⟨0,by rw[show dV f last 0=-1 from by unfold dV;rw[if_neg (by omega)]];rfl,rfl,rfl⟩
 rintro m x q ⟨i,rfl,hm,rfl⟩ k hk
 simp only
 rcases Nat.lt_or_ge i n with hi|hi
 ·have n0:(0:Int)<=(i:Int):=by omega
  rw[decide_eq_true (show(i:Int)<(((bsN n f).length:Nat):Int) by rw[ew];omega),cond_true,if_pos n0,Int.toNat_natCast,ez f hi]
  simp only
  rw[aa (Fe last hi)]
  simp only
  refine av ((),(f i&&decide (i=last),())) (λK=>?_) ?_
  ·cases f i
   ·rfl
   ·rw[cond_true]
    by_cases e:i=last
    ·subst e
     have h1:dV f i i=-1:=by unfold dV;rw[if_neg (by omega)]
     rw[if_pos rfl,h1]
     simp
    ·rw[if_neg e]
     simp[e]
  ·simp only
   refine av ((),(dV f last (i+1),())) (λK=>?_) ?_
   ·by_cases e:i=last
    ·subst e
     cases hf:f i
     ·have h1:dV f i i=dV f i (i+1):=by unfold dV;simp[hf]
      simp[h1]
     ·have h1:dV f i (i+1)=0:=by unfold dV;rw[if_pos ⟨hf,by omega⟩]
      simp[h1]
    ·have h1:dV f last i=dV f last (i+1):=by
      unfold dV
      have:(last<i+1)↔(last<i):=by omega
      simp[this]
     simp[e,h1]
   ·simp only
    rw[bf (by omega)]
    exact hk (m-1) _ _ (by omega) ⟨i+1,rfl,by omega,rfl⟩
 ·have:i=n:=by omega
  subst this
  rw[decide_eq_false (show ¬(i:Int)<(((bsN i f).length:Nat):Int) by rw[ew];omega),cond_false]
end
noncomputable section
theorem vJ{E:List Ed}{g:Nat->Bool}(hg:iw E g){p q:Nat}(h:Fr0 E p q)(hp:g p=true):g q=true:=by
 induction h with
 |refl=>exact hp
 |step _ he ih=>exact hg _ he rfl ih
theorem pv(t:Rx){g:Nat->Bool}(h:dH (t.ah 0) (λx=>decide (x=t.fst 0)) g):g (t.lst 0)=t.null:=by
 obtain⟨h1,h2,h3⟩:=h
 cases hn:t.null
 ·have hle:=h3 (t.cl 0) (λe he hf hp=>t.wU 0 e he hf hp) (λx hx=>by
   rw[decide_eq_true_eq]at hx
   rw[hx];exact t.jl 0)
  cases hg:g (t.lst 0)
  ·rfl
  ·have:=hle _ hg
   rw[t.lH,hn]at this
   cases this
 ·exact vJ h2 (t.BV 0 hn) (h1 _ (by simp))
theorem cI{E:List Ed}{f g g':Nat->Bool}(h:dH E f g)(h':dH E f g'):g=g':=by
 funext x
 cases hg:g x
 ·cases hg':g' x
  ·rfl
  ·have:=h'.2.2 g h.2.1 h.1 x hg'
   rw[hg]at this;cases this
 ·exact(h.2.2 g' h'.2.1 h'.1 x hg).symm
theorem KP{E:List Ed}{f f' g:Nat->Bool}(hf:∀ x,f x=f' x)(h:dH E f g):dH E f' g:=by
 have:f=f':=funext hf
 rw[<-this];exact h
def cU(E:List Ed):List Nat:=(E.filter λe=>!e.2.2.2).map λe=>e.2.1
def onT(E:List Ed)(f:Nat->Bool):List Bool:=(cU E).map f
theorem jO{E:List Ed}{f:Nat->Bool}{c x:Nat}(h:aB E f c x=true):x∈cU E:=by
 unfold aB at h
 rw[List.any_eq_true]at h
 obtain⟨e,he,h⟩:=h
 simp only[Bool.and_eq_true,Bool.not_eq_true',decide_eq_true_eq]at h
 obtain⟨h1,_,_,h2⟩:=h
 unfold cU
 rw[List.mem_map]
 exact⟨e,List.mem_filter.2 ⟨he,by simp[h1]⟩,h2.symm⟩
theorem lQ{E:List Ed}{f f':Nat->Bool}{c c':Nat}(h:onT E (aB E f c)=onT E (aB E f' c')):aB E f c=aB E f' c':=by
 have key:∀ x,x∈cU E->aB E f c x=aB E f' c' x:=by
  unfold onT at h
  intro x hx
  exact List.map_inj_left.1 h x hx
 funext x
 cases h1:aB E f c x
 ·cases h2:aB E f' c' x
  ·rfl
  ·have:=key x (jO h2)
   rw[h1,h2]at this;exact this
 ·have:=key x (jO h1)
  rw[h1]at this;exact this
def KQ(E:List Ed)(f0 g:Nat->Bool):Prop:=dH E f0 g\/∃ f c,dH E (aB E f c) g
theorem kV(E:List Ed)(f:Nat->Bool):(onT E f).length=(cU E).length:=by simp[onT]
theorem Fg{E:List Ed}{f0:Nat->Bool}(l:List (Nat->Bool))(hn:l.Nodup)(h:∀ g∈l,KQ E f0 g):l.length<=2 ^ (cU E).length+1:=by
 refine qJ (λ(g:Nat->Bool) (k:Nat)=>(k=0/\dH E f0 g)\/(0<k/\∃ f c,dH E (aB E f c) g/\k=bN (onT E (aB E f c))+1)) ?_ (2 ^ (cU E).length+1) l hn ?_
 ·rintro x y k (⟨hk,hx⟩|⟨hk,f,c,hx,e⟩) (⟨hk',hy⟩|⟨hk',f',c',hy,e'⟩)
  ·exact cI hx hy
  ·omega
  ·omega
  ·have hb:bN (onT E (aB E f c))=bN (onT E (aB E f' c')):=by omega
   have:=jJ _ _ (by rw[kV,kV]) hb
   have:=lQ this
   rw[this]at hx
   exact cI hx hy
 ·intro g hg
  rcases h g hg with hg|⟨f,c,hg⟩
  ·exact⟨0,Nat.succ_pos _,.inl ⟨rfl,hg⟩⟩
  ·have:=gQ (onT E (aB E f c))
   rw[kV]at this
   exact⟨_,by omega,.inr ⟨by omega,f,c,hg,rfl⟩⟩
end
noncomputable section
def Rx.bg:Rx->Nat
 |.eps=>0
 |.set _=>1
 |.cat a b=>a.bg+b.bg
 |.alt a b=>a.bg+b.bg
 |.rep _ a=>a.bg
theorem eA(E E':List Ed):cU (E++E')=cU E++cU E':=by unfold cU;rw[List.filter_append,List.map_append]
theorem oh:∀ (t:Rx) (n:Nat),(cU (t.ah n)).length=t.bg:=by
 intro t
 induction t with
 |eps=>intro n;rfl
 |set S=>intro n;rfl
 |cat a b iha ihb=>
  intro n
  simp only[Rx.ah,eA,List.length_append,iha,ihb,Rx.bg]
  rfl
 |alt a b iha ihb=>
  intro n
  simp only[Rx.ah,eA,List.length_append,iha,ihb,Rx.bg]
  rfl
 |rep k a ih=>
  intro n
  simp only[Rx.ah,eA,List.length_append,ih,Rx.bg]
  split <;> split <;> rfl
def OnO(i:Nat)(o:Option (Rx×Nat)):Prop:=∀ t j,o=some (t,j)->t.bg+i<=j
theorem Fh{s:List Int}(hb:Bytes s){inner:Nat->Nat->Option (Rx×Nat)}{i d:Nat}(hin:OnO (i+1) (inner (i+1) (d+1))):OnO i (gR inner s i d):=by
 intro t j h
 unfold gR at h
 split at h
 ·cases h
 split at h
 ·injection h with h;injection h with h1 h2;subst h1;subst h2;simp only[Rx.bg];omega
 split at h
 ·injection h with h;injection h with h1 h2;subst h1;subst h2;simp only[Rx.bg];omega
 split at h
 ·have hr:=qN hb (show i<i+1 by omega) t j h
  rw[n6]at h
  unfold iF at h
  split at h
  ·cases h
  rename_i l k hl
  generalize (if cH s (i+1) 94=true then λx=>!l x else l)=l' at h
  split at h
  ·cases h
  injection h with h
  injection h with h1 h2
  subst h1
  have:=hr.1
  simp only[Rx.bg];omega
 split at h
 ·split at h
  ·cases h
  split at h
  ·cases h
  rename_i t2 j2 hi2
  have:=hin _ _ hi2
  split at h
  ·injection h with h;injection h with h1 h2;subst h1;subst h2;omega
  ·cases h
 split at h
 ·cases h
 rename_i c n hrd
 obtain⟨h1,h2,h3⟩:=fW (hb.drop i) hrd
 injection h with h;injection h with h4 h5;subst h4;subst h5
 simp only[Rx.bg];omega
theorem Fi{s:List Int}:∀ (m i0 i:Nat) (t0 t:Rx) (j:Nat),t0.bg+i0<=i->kc s m i t0=some (t,j)->t.bg+i0<=j:=by
 intro m
 induction m with
 |zero=>intro i0 i t0 t j _ h;cases h
 |succ m ih=>
  intro i0 i t0 t j hr h
  simp only[kc]at h
  split at h
  ·exact ih i0 (i+1) _ t j (by simp only[Rx.bg];omega) h
  ·injection h with h;injection h with h1 h2;subst h1;subst h2;exact hr
theorem xn{s:List Int}(hb:Bytes s){inner:Nat->Nat->Option (Rx×Nat)}{i d:Nat}(hin:OnO (i+1) (inner (i+1) (d+1))):OnO i (fV inner s i d):=by
 intro t j h
 unfold fV at h
 split at h
 ·cases h
 rename_i t0 i0 h0
 exact Fi _ i i0 t0 t j (Fh hb hin _ _ h0) h
theorem Fj{s:List Int}(hb:Bytes s){inner:Nat->Nat->Option (Rx×Nat)}{d:Nat}(hin:∀ i d,OnO i (inner i d)):∀ (m i0 i:Nat) (t0 t:Rx) (j:Nat),t0.bg+i0<=i->kH inner s d m i t0=some (t,j)->t.bg+i0<=j:=by
 intro m
 induction m with
 |zero=>intro i0 i t0 t j _ h;cases h
 |succ m ih=>
  intro i0 i t0 t j hr h
  simp only[kH]at h
  split at h
  ·split at h
   ·cases h
   rename_i t2 j2 h2
   have:=xn hb (hin (i+1) (d+1)) _ _ h2
   exact ih i0 j2 _ t j (by simp only[Rx.bg];omega) h
  ·injection h with h;injection h with h1 h2;subst h1;subst h2;exact hr
theorem xo{s:List Int}(hb:Bytes s){inner:Nat->Nat->Option (Rx×Nat)}{i d:Nat}(hin:∀ i d,OnO i (inner i d)):OnO i (ga inner s i d):=by
 intro t j h
 unfold ga at h
 split at h
 ·cases h
 rename_i t0 i0 h0
 exact Fj hb hin _ i i0 t0 t j (xn hb (hin (i+1) (d+1)) _ _ h0) h
theorem Fk{s:List Int}(hb:Bytes s){inner:Nat->Nat->Option (Rx×Nat)}{d:Nat}(hin:∀ i d,OnO i (inner i d)):∀ (m i0 i:Nat) (t0 t:Rx) (j:Nat),t0.bg+i0<=i->kI inner s d m i t0=some (t,j)->t.bg+i0<=j:=by
 intro m
 induction m with
 |zero=>intro i0 i t0 t j _ h;cases h
 |succ m ih=>
  intro i0 i t0 t j hr h
  simp only[kI]at h
  split at h
  ·split at h
   ·cases h
   rename_i t2 j2 h2
   have:=xo hb hin _ _ h2
   exact ih i0 j2 _ t j (by simp only[Rx.bg];omega) h
  ·injection h with h;injection h with h1 h2;subst h1;subst h2;exact hr
theorem Fl{s:List Int}(hb:Bytes s):∀ (n i d:Nat),OnO i (fA s n i d):=by
 intro n
 induction n with
 |zero=>intro i d t j h;cases h
 |succ n ih=>
  intro i d t j h
  simp only[fA,tC]at h
  split at h
  ·cases h
  rename_i t0 i0 h0
  exact Fk hb ih _ i i0 t0 t j (xo hb ih _ _ h0) h
theorem FY{s:List Int}(hb:Bytes s){t:Rx}(h:cG s=.ok t):t.bg<=s.length:=by
 unfold cG at h
 split at h
 ·cases h
 split at h
 ·cases h
 rename_i t2 i ho
 have h1:=Fl hb _ _ _ _ _ ho
 obtain⟨_,h2,_,_⟩:=fe hb _ _ _ (by omega) _ _ ho
 split at h
 ·cases h
 split at h
 ·cases h
 injection h with h
 subst h
 omega
end
noncomputable section
def lR(S:List Int):Prop:=S=ofB (λ_=>true)\/∃ c:Int,S=ofB (lI c)
def Rx.pw:Rx->Nat
 |.cat ..=>2
 |.alt ..=>2
 |_=>0
def Rx.cw:Rx->Nat
 |.alt ..=>2
 |_=>0
open Classical in
def Rx.wt:Rx->Nat
 |.eps=>1
 |.set S=>if lR S then 1 else 2
 |.cat a b=>a.wt+a.cw+(b.wt+b.pw)
 |.alt a b=>a.wt+(b.wt+b.cw)+1
 |.rep _ a=>a.wt+a.pw+1
theorem Rx.HX:Rx.wt .eps=1:=by rw[Rx.wt]
theorem Rx.qT(a b:Rx):(Rx.cat a b).wt=a.wt+a.cw+(b.wt+b.pw):=by rw[Rx.wt]
theorem Rx.oi(a b:Rx):(Rx.alt a b).wt=a.wt+(b.wt+b.cw)+1:=by rw[Rx.wt]
theorem Rx.qU(k:Int)(a:Rx):(Rx.rep k a).wt=a.wt+a.pw+1:=by rw[Rx.wt]
theorem Rx.HY(k:Int)(a:Rx):(Rx.rep k a).pw=0:=rfl
theorem Rx.Nm(a b:Rx):(Rx.cat a b).pw=2:=rfl
theorem Rx.Cr(a b:Rx):(Rx.cat a b).cw=0:=rfl
theorem Rx.HZ(k:Int)(a:Rx):(Rx.rep k a).cw=0:=rfl
theorem Rx.H0(a b:Rx):(Rx.alt a b).cw=2:=rfl
theorem Rx.KR:∀ t:Rx,t.pw<=2:=by intro t;cases t <;> simp[Rx.pw]
def Wo(i:Nat)(o:Option (Rx×Nat)):Prop:=∀ t j,o=some (t,j)->t.wt+i<=j
def WoP(i:Nat)(o:Option (Rx×Nat)):Prop:=∀ t j,o=some (t,j)->t.wt+t.pw+i<=j
def WoC(i:Nat)(o:Option (Rx×Nat)):Prop:=∀ t j,o=some (t,j)->t.wt+t.cw+i<=j
theorem Fm{s:List Int}(hb:Bytes s){inner:Nat->Nat->Option (Rx×Nat)}{i d:Nat}(hin:Wo (i+1) (inner (i+1) (d+1))):WoP i (gR inner s i d):=by
 intro t j h
 unfold gR at h
 split at h
 ·cases h
 split at h
 ·injection h with h;injection h with h1 h2;subst h1;subst h2;simp only[Rx.wt,Rx.pw,if_pos (show lR (ofB λ_=>true)from .inl rfl)];omega
 split at h
 ·injection h with h;injection h with h1 h2;subst h1;subst h2;simp only[Rx.wt,Rx.pw];omega
 split at h
 ·have hr:=(qN hb (show i+1-1<i+1 by omega) t j h).1
  rw[n6]at h
  unfold iF at h
  split at h
  ·cases h
  rename_i l k hl
  generalize (if cH s (i+1) 94=true then λx=>!l x else l)=l' at h
  split at h
  ·cases h
  injection h with h
  injection h with h1 h2
  subst h1
  have hk:=w6 hb _ _ _ _ _ hl
  have hk2:i+1<=k:=by
   refine Nat.le_trans ?_ hk
   split <;> omega
  have hw:Rx.wt (.set (ofB l'))<=2:=by simp only[Rx.wt];split <;> omega
  simp only[Rx.pw]
  omega
 split at h
 ·split at h
  ·cases h
  split at h
  ·cases h
  rename_i t2 j2 hi2
  have:=hin _ _ hi2
  have:=t2.KR
  split at h
  ·injection h with h;injection h with h1 h2;subst h1;subst h2;omega
  ·cases h
 split at h
 ·cases h
 rename_i c n hrd
 obtain⟨h1,h2,h3⟩:=fW (hb.drop i) hrd
 injection h with h;injection h with h4 h5;subst h4;subst h5
 simp only[Rx.wt,Rx.pw,if_pos (show lR (ofB (lI c))from .inr ⟨c,rfl⟩)];omega
theorem Fo{s:List Int}:∀ (m i0 i:Nat) (t0 t:Rx) (j:Nat),t0.wt+t0.pw+i0<=i->kc s m i t0=some (t,j)->t.wt+t.pw+i0<=j:=by
 intro m
 induction m with
 |zero=>intro i0 i t0 t j _ h;cases h
 |succ m ih=>
  intro i0 i t0 t j hr h
  simp only[kc]at h
  split at h
  ·exact ih i0 (i+1) _ t j (by rw[Rx.qU,Rx.HY];omega) h
  ·injection h with h;injection h with h1 h2;subst h1;subst h2;exact hr
theorem xp{s:List Int}(hb:Bytes s){inner:Nat->Nat->Option (Rx×Nat)}{i d:Nat}(hin:Wo (i+1) (inner (i+1) (d+1))):WoP i (fV inner s i d):=by
 intro t j h
 unfold fV at h
 split at h
 ·cases h
 rename_i t0 i0 h0
 exact Fo _ i i0 t0 t j (Fm hb hin _ _ h0) h
theorem KS(t:Rx):t.cw<=t.pw:=by cases t <;> simp[Rx.cw,Rx.pw]
theorem Fq{s:List Int}(hb:Bytes s){inner:Nat->Nat->Option (Rx×Nat)}{d:Nat}(hin:∀ i d,Wo i (inner i d)):∀ (m i0 i:Nat) (t0 t:Rx) (j:Nat),t0.wt+t0.cw+i0<=i->kH inner s d m i t0=some (t,j)->t.wt+t.cw+i0<=j:=by
 intro m
 induction m with
 |zero=>intro i0 i t0 t j _ h;cases h
 |succ m ih=>
  intro i0 i t0 t j hr h
  simp only[kH]at h
  split at h
  ·split at h
   ·cases h
   rename_i t2 j2 h2
   have:=xp hb (hin (i+1) (d+1)) _ _ h2
   exact ih i0 j2 _ t j (by rw[Rx.qT,Rx.Cr];omega) h
  ·injection h with h;injection h with h1 h2;subst h1;subst h2;exact hr
theorem xq{s:List Int}(hb:Bytes s){inner:Nat->Nat->Option (Rx×Nat)}{i d:Nat}(hin:∀ i d,Wo i (inner i d)):WoC i (ga inner s i d):=by
 intro t j h
 unfold ga at h
 split at h
 ·cases h
 rename_i t0 i0 h0
 have h1:=xp hb (hin (i+1) (d+1)) _ _ h0
 have h2:=KS t0
 exact Fq hb hin _ i i0 t0 t j (by omega) h
theorem Fs{s:List Int}(hb:Bytes s){inner:Nat->Nat->Option (Rx×Nat)}{d:Nat}(hin:∀ i d,Wo i (inner i d)):∀ (m i0 i:Nat) (t0 t:Rx) (j:Nat),t0.wt+i0<=i->kI inner s d m i t0=some (t,j)->t.wt+i0<=j:=by
 intro m
 induction m with
 |zero=>intro i0 i t0 t j _ h;cases h
 |succ m ih=>
  intro i0 i t0 t j hr h
  simp only[kI]at h
  split at h
  ·split at h
   ·cases h
   rename_i t2 j2 h2
   have:=xq hb hin _ _ h2
   exact ih i0 j2 _ t j (by rw[Rx.oi];omega) h
  ·injection h with h;injection h with h1 h2;subst h1;subst h2;exact hr
theorem Ft{s:List Int}(hb:Bytes s):∀ (n i d:Nat),Wo i (fA s n i d):=by
 intro n
 induction n with
 |zero=>intro i d t j h;cases h
 |succ n ih=>
  intro i d t j h
  simp only[fA,tC]at h
  split at h
  ·cases h
  rename_i t0 i0 h0
  have:=xq hb ih _ _ h0
  exact Fs hb ih _ i i0 t0 t j (by omega) h
theorem zy{s:List Int}(hb:Bytes s){t:Rx}(h:cG s=.ok t):t.wt<=s.length:=by
 unfold cG at h
 split at h
 ·cases h
 split at h
 ·cases h
 rename_i t2 i ho
 have h1:=Ft hb _ _ _ _ _ ho
 obtain⟨_,h2,_,_⟩:=fe hb _ _ _ (by omega) _ _ ho
 split at h
 ·cases h
 split at h
 ·cases h
 injection h with h
 subst h
 omega
theorem Rx.du:∀ t:Rx,t.bg<=t.wt:=by
 intro t
 induction t with
 |eps=>simp[Rx.bg]
 |set S=>simp only[Rx.bg,Rx.wt];split <;> omega
 |cat a b iha ihb=>rw[Rx.qT];simp only[Rx.bg];omega
 |alt a b iha ihb=>rw[Rx.oi];simp only[Rx.bg];omega
 |rep k a ih=>rw[Rx.qU];simp only[Rx.bg];omega
end
noncomputable section
def Rx.lin:Rx->Bool
 |.eps=>true
 |.set _=>true
 |.cat a b=>a.lin&&b.lin
 |_=>false
def Rx.lf:Rx->Bool
 |.eps=>false
 |.set _=>true
 |.cat a _=>a.lf
 |.alt a _=>a.lf
 |.rep k a=>decide (k=6)&&a.lf
inductive Rx.Lq:Rx->Prop
 |rep {k:Int} {S:List Int} (hk:k≠6) (hS:lR S):Rx.Lq (.rep k (.set S))
 |cat {a:Rx} {S:List Int} (h:Rx.Lq a):Rx.Lq (.cat a (.set S))
theorem oj:∀ t:Rx,t.wt<=t.bg->t.lf=true/\t.lin=true/\(t.pw=0->∃ S,lR S/\t=.set S):=by
 intro t
 induction t with
 |eps=>intro h;rw[Rx.HX]at h;simp[Rx.bg]at h
 |set S=>
  intro h
  simp only[Rx.wt,Rx.bg]at h
  split at h
  ·rename_i hS;exact⟨rfl,rfl,λ_=>⟨S,hS,rfl⟩⟩
  ·omega
 |cat a b iha ihb=>
  intro h
  rw[Rx.qT]at h
  simp only[Rx.bg]at h
  have h1:=a.du
  have h2:=b.du
  obtain⟨i1,i2,_⟩:=iha (by omega)
  obtain⟨j1,j2,_⟩:=ihb (by omega)
  exact⟨i1,by simp[Rx.lin,i2,j2],λh=>by simp[Rx.pw]at h⟩
 |alt a b iha ihb=>
  intro h
  rw[Rx.oi]at h
  simp only[Rx.bg]at h
  have h1:=a.du
  have h2:=b.du
  omega
 |rep k a ih=>
  intro h
  rw[Rx.qU]at h
  simp only[Rx.bg]at h
  have h1:=a.du
  omega
theorem mL:∀ t:Rx,t.wt+t.cw<=t.bg+1->t.lin=true\/t.lf=true\/t.Lq:=by
 intro t
 induction t with
 |eps=>intro _;exact .inl rfl
 |set S=>intro _;exact .inl rfl
 |cat a b iha ihb=>
  intro h
  rw[Rx.qT,Rx.Cr]at h
  simp only[Rx.bg]at h
  have h1:=a.du
  have h2:=b.du
  by_cases ha:a.wt<=a.bg
  ·exact .inr (.inl (oj a ha).1)
  ·obtain⟨_,j2,j3⟩:=oj b (by omega)
   obtain⟨S,hS,rfl⟩:=j3 (by omega)
   rcases iha (by omega)with i|i|i
   ·exact .inl (by simp[Rx.lin,i])
   ·exact .inr (.inl i)
   ·exact .inr (.inr (.cat i))
 |alt a b iha ihb=>
  intro h
  rw[Rx.oi,Rx.H0]at h
  simp only[Rx.bg]at h
  have h1:=a.du
  have h2:=b.du
  omega
 |rep k a ih=>
  intro h
  rw[Rx.qU,Rx.HZ]at h
  simp only[Rx.bg]at h
  have h1:=a.du
  obtain⟨i1,_,i3⟩:=oj a (by omega)
  obtain⟨S,hS,rfl⟩:=i3 (by omega)
  by_cases hk:k=6
  ·exact .inr (.inl (by simp[Rx.lf,hk]))
  ·exact .inr (.inr (.rep hk hS))
theorem H2(t:Rx)(h:t.wt<=t.bg+1):t.lin=true\/t.lf=true\/t.Lq:=by
 cases t with
 |alt a b=>
  rw[Rx.oi]at h
  simp only[Rx.bg]at h
  have h1:=a.du
  have h2:=b.du
  exact .inr (.inl (oj a (by omega)).1)
 |eps=>exact mL _ (by simpa [Rx.cw]using h)
 |set S=>exact mL _ (by simpa [Rx.cw]using h)
 |cat a b=>exact mL _ (by simpa [Rx.cw]using h)
 |rep k a=>exact mL _ (by simpa [Rx.cw]using h)
def Rx.lvl:Rx->Nat->Nat->Nat
 |.set _,n,q=>if q=n then 0 else 1
 |.cat a b,n,q=>if q<n+2*a.len then a.lvl n q else if q<n+2*(a.len+b.len)then a.bg+b.lvl (n+2*a.len) q else if q=n+2*(a.len+b.len)then 0 else a.bg+b.bg
 |_,_,_=>0
theorem Rx.qV:∀ (t:Rx) (n:Nat),t.lvl n (t.fst n)=0:=by
 intro t n
 have:=t.aN
 cases t with
 |set S=>simp[Rx.lvl,Rx.fst,Rx.len]
 |cat a b=>
  have e:(Rx.cat a b).fst n=n+2*(a.len+b.len):=by simp only[Rx.fst,Rx.len];omega
  have ha:=a.aN
  rw[e,Rx.lvl,if_neg (by omega),if_neg (by omega),if_pos rfl]
 |_=>rfl
theorem Rx.xr:∀ (t:Rx) (n:Nat),t.lin=true->t.lvl n (t.lst n)=t.bg:=by
 intro t n h
 have:=t.aN
 cases t with
 |set S=>simp[Rx.lvl,Rx.lst,Rx.len,Rx.bg]
 |eps=>rfl
 |cat a b=>
  have e:(Rx.cat a b).lst n=n+2*(a.len+b.len)+1:=by simp only[Rx.lst,Rx.len];omega
  have ha:=a.aN
  rw[e,Rx.lvl,if_neg (by omega),if_neg (by omega),if_neg (by omega),Rx.bg]
 |alt a b=>cases h
 |rep k a=>cases h
theorem Rx.tT:∀ (t:Rx) (n:Nat),t.lin=true->∀ e∈t.ah n,t.lvl n e.2.1=t.lvl n e.1+(if e.2.2.2=true then 0 else 1):=by
 intro t
 induction t with
 |eps=>intro n _ e he;simp[Rx.ah,fE]at he;subst he;simp[Rx.lvl]
 |set S=>intro n _ e he;simp[Rx.ah]at he;subst he;simp[Rx.lvl]
 |alt a b=>intro n h;cases h
 |rep k a=>intro n h;cases h
 |cat a b iha ihb=>
  intro n h e he
  simp only[Rx.lin,Bool.and_eq_true]at h
  have ha:=a.aN
  have hb:=b.aN
  simp only[Rx.ah,List.mem_append,List.mem_cons,List.not_mem_nil,or_false]at he
  rcases he with(he|he)|he|he|he
  ·have hi:=a.bR n e he
   simp only[Rx.lvl]
   rw[if_pos (by omega),if_pos (by omega),iha n h.1 e he]
  ·have hi:=b.bR _ e he
   simp only[Rx.lvl]
   rw[if_neg (by omega),if_pos (by omega),if_neg (by omega),if_pos (by omega),ihb _ h.2 e he]
   omega
  ·subst he
   have hi:=a.jm n
   have hz:=a.qV n
   show(Rx.cat a b).lvl n (a.fst n)=(Rx.cat a b).lvl n (n+2*(a.len+b.len))+0
   simp only[Rx.lvl]
   rw[if_pos (show a.fst n<n+2*a.len by omega),if_neg (by omega),if_neg (by omega),if_true,hz]
  ·subst he
   have hi:=a.fU n
   have hi2:=b.jm (n+2*a.len)
   have hz:=a.xr n h.1
   have hz2:=b.qV (n+2*a.len)
   show(Rx.cat a b).lvl n (b.fst (n+2*a.len))=(Rx.cat a b).lvl n (a.lst n)+0
   simp only[Rx.lvl]
   rw[if_neg (show ¬b.fst (n+2*a.len)<n+2*a.len by omega),if_pos (by omega),if_pos (by omega),hz,hz2]
  ·subst he
   have hi2:=b.fU (n+2*a.len)
   have hz2:=b.xr (n+2*a.len) h.2
   show(Rx.cat a b).lvl n (n+2*(a.len+b.len)+1)=(Rx.cat a b).lvl n (b.lst (n+2*a.len))+0
   simp only[Rx.lvl]
   rw[if_neg (by omega),if_neg (by omega),if_neg (by omega),if_neg (show ¬b.lst (n+2*a.len)<n+2*a.len by omega),if_pos (by omega),hz2]
   omega
theorem Rx.xt:∀ (t:Rx) (n:Nat),t.lin=true->∀ x∈cU (t.ah n),0<t.lvl n x/\t.lvl n x<=t.bg/\∀ y∈cU (t.ah n),t.lvl n x=t.lvl n y->x=y:=by
 intro t
 induction t with
 |eps=>intro n _ x hx;simp[Rx.ah,cU,fE]at hx
 |set S=>
  intro n _ x hx
  simp[Rx.ah,cU]at hx
  subst hx
  refine⟨by simp[Rx.lvl],by simp[Rx.lvl,Rx.bg],λy hy _=>?_⟩
  simp[Rx.ah,cU]at hy
  exact hy.symm
 |alt a b=>intro n h;cases h
 |rep k a=>intro n h;cases h
 |cat a b iha ihb=>
  intro n h x hx
  simp only[Rx.lin,Bool.and_eq_true]at h
  have ha:=a.aN
  have hb:=b.aN
  have hin:∀ (t:Rx) (m x:Nat),x∈cU (t.ah m)->m<=x/\x<m+2*t.len:=by
   intro t m x hx
   unfold cU at hx
   obtain⟨e,he,rfl⟩:=List.mem_map.1 hx
   have:=t.bR m e (List.mem_filter.1 he).1
   omega
  have hT:cU ((Rx.cat a b).ah n)=cU (a.ah n)++cU (b.ah (n+2*a.len)):=by
   simp only[Rx.ah,eA]
   simp[cU,fE]
  have la:∀ x,x∈cU (a.ah n)->(Rx.cat a b).lvl n x=a.lvl n x:=λx hx=>by
   have:=hin a n x hx
   rw[Rx.lvl,if_pos (by omega)]
  have lb:∀ x,x∈cU (b.ah (n+2*a.len))->(Rx.cat a b).lvl n x=a.bg+b.lvl (n+2*a.len) x:=λx hx=>by
   have:=hin b _ x hx
   rw[Rx.lvl,if_neg (by omega),if_pos (by omega)]
  rw[hT]at hx |-
  simp only[Rx.bg]
  rcases List.mem_append.1 hx with hx|hx
  ·obtain⟨q1,q2,q3⟩:=iha n h.1 x hx
   rw[la x hx]
   refine⟨q1,by omega,λy hy hxy=>?_⟩
   rcases List.mem_append.1 hy with hy|hy
   ·rw[la y hy]at hxy;exact q3 y hy hxy
   ·rw[lb y hy]at hxy
    have:=(ihb _ h.2 y hy).1
    omega
  ·obtain⟨q1,q2,q3⟩:=ihb _ h.2 x hx
   rw[lb x hx]
   refine⟨by omega,by omega,λy hy hxy=>?_⟩
   rcases List.mem_append.1 hy with hy|hy
   ·rw[la y hy]at hxy
    have:=(iha n h.1 y hy).2.1
    omega
   ·rw[lb y hy]at hxy;exact q3 y hy (by omega)
def Rx.pre:Rx->Nat->Nat->Bool
 |.eps,n,q=>decide (q=n)
 |.set _,n,q=>decide (q=n)
 |.cat a b,n,q=>decide (q=n+2*(a.len+b.len))||a.pre n q
 |.alt a b,n,q=>decide (q=n+2*(a.len+b.len))||a.pre n q
 |.rep k a,n,q=>decide (q=n+2*a.len)||(decide (k=6)&&a.pre n q)
theorem Rx.ke:∀ (t:Rx) (n q:Nat),t.pre n q=true->n<=q/\q<n+2*t.len:=by
 intro t
 induction t with
 |eps=>intro n q h;simp only[Rx.pre,decide_eq_true_eq]at h;simp only[Rx.len];omega
 |set S=>intro n q h;simp only[Rx.pre,decide_eq_true_eq]at h;simp only[Rx.len];omega
 |cat a b iha ihb=>
  intro n q h
  simp only[Rx.pre,Bool.or_eq_true,decide_eq_true_eq]at h
  simp only[Rx.len]
  rcases h with h|h
  ·omega
  ·have:=iha n q h;omega
 |alt a b iha ihb=>
  intro n q h
  simp only[Rx.pre,Bool.or_eq_true,decide_eq_true_eq]at h
  simp only[Rx.len]
  rcases h with h|h
  ·omega
  ·have:=iha n q h;omega
 |rep k a ih=>
  intro n q h
  simp only[Rx.pre,Bool.or_eq_true,Bool.and_eq_true,decide_eq_true_eq]at h
  simp only[Rx.len]
  rcases h with h|h
  ·omega
  ·have:=ih n q h.2;omega
theorem Rx.Cs:∀ (t:Rx) (n:Nat),∀ e∈t.ah n,t.pre n e.2.1=true->e.2.2.2=true/\t.pre n e.1=true:=by
 intro t
 induction t with
 |eps=>intro n e he h;simp[Rx.ah,fE]at he;subst he;simp[Rx.pre]at h
 |set S=>intro n e he h;simp[Rx.ah]at he;subst he;simp[Rx.pre]at h
 |cat a b iha ihb=>
  intro n e he h
  have ha:=a.aN
  have hb:=b.aN
  simp only[Rx.ah,List.mem_append,List.mem_cons,List.not_mem_nil,or_false]at he
  simp only[Rx.pre,Bool.or_eq_true,decide_eq_true_eq]at h |-
  rcases he with(he|he)|he|he|he
  ·have hi:=a.bR n e he
   obtain⟨q1,q2⟩:=iha n e he (h.resolve_left (by omega))
   exact⟨q1,.inr q2⟩
  ·have hi:=b.bR _ e he
   rcases h with h|h
   ·omega
   ·have:=a.ke n _ h;omega
  ·subst he;exact⟨rfl,.inl rfl⟩
  ·subst he
   have hi:=b.jm (n+2*a.len)
   rcases h with h|h
   ·simp only[fE]at h;omega
   ·have:=a.ke n _ h;simp only[fE]at this;omega
  ·subst he
   rcases h with h|h
   ·simp only[fE]at h;omega
   ·have:=a.ke n _ h;simp only[fE]at this;omega
 |alt a b iha ihb=>
  intro n e he h
  have ha:=a.aN
  have hb:=b.aN
  simp only[Rx.ah,List.mem_append,List.mem_cons,List.not_mem_nil,or_false]at he
  simp only[Rx.pre,Bool.or_eq_true,decide_eq_true_eq]at h |-
  rcases he with(he|he)|he|he|he|he
  ·have hi:=a.bR n e he
   obtain⟨q1,q2⟩:=iha n e he (h.resolve_left (by omega))
   exact⟨q1,.inr q2⟩
  ·have hi:=b.bR _ e he
   rcases h with h|h
   ·omega
   ·have:=a.ke n _ h;omega
  ·subst he;exact⟨rfl,.inl rfl⟩
  ·subst he
   rcases h with h|h
   ·simp only[fE]at h;omega
   ·have:=a.ke n _ h;simp only[fE]at this;omega
  ·subst he;exact⟨rfl,.inl rfl⟩
  ·subst he
   rcases h with h|h
   ·simp only[fE]at h;omega
   ·have:=a.ke n _ h;simp only[fE]at this;omega
 |rep k a ih=>
  intro n e he h
  have ha:=a.aN
  simp only[Rx.ah,List.mem_append,List.mem_cons,List.not_mem_nil,or_false]at he
  simp only[Rx.pre,Bool.or_eq_true,Bool.and_eq_true,decide_eq_true_eq]at h |-
  rcases he with((he|he|he)|he)|he
  ·have hi:=a.bR n e he
   have h:=h.resolve_left (by omega)
   obtain⟨q1,q2⟩:=ih n e he h.2
   exact⟨q1,.inr ⟨h.1,q2⟩⟩
  ·subst he;exact⟨rfl,.inl rfl⟩
  ·subst he
   rcases h with h|h
   ·simp only[fE]at h;omega
   ·have:=a.ke n _ h.2;simp only[fE]at this;omega
  ·split at he
   ·simp at he
   ·rename_i hk
    simp only[List.mem_singleton]at he
    subst he
    rcases h with h|h
    ·have:=a.jm n;simp only[fE]at h;omega
    ·exact absurd h.1 hk
  ·split at he
   ·simp at he
   ·simp only[List.mem_singleton]at he
    subst he
    exact⟨rfl,.inl rfl⟩
theorem Rx.Ct:∀ (t:Rx) (n:Nat),t.lf=true->∃ r,cU (t.ah n)=(n+1)::r/\t.pre n n=true/\∀ e∈t.ah n,e.2.2.2=false->e.2.1=n+1->e.1=n:=by
 intro t
 induction t with
 |eps=>intro n h;cases h
 |set S=>intro n _;exact⟨[],rfl,by simp[Rx.pre],λe he _ _=>by simp[Rx.ah]at he;subst he;rfl⟩
 |cat a b iha ihb=>
  intro n h
  have ha:=a.aN
  obtain⟨r,q1,q2,q3⟩:=iha n h
  refine⟨r++cU (b.ah (n+2*a.len)),?_,by simp[Rx.pre,q2],λe he hf ht=>?_⟩
  ·simp only[Rx.ah,eA,q1];simp[cU,fE]
  ·simp only[Rx.ah,List.mem_append,List.mem_cons,List.not_mem_nil,or_false]at he
   rcases he with(he|he)|he|he|he
   ·exact q3 e he hf ht
   ·have:=b.bR _ e he;omega
   all_goals (subst he;cases hf)
 |alt a b iha ihb=>
  intro n h
  have ha:=a.aN
  obtain⟨r,q1,q2,q3⟩:=iha n h
  refine⟨r++cU (b.ah (n+2*a.len)),?_,by simp[Rx.pre,q2],λe he hf ht=>?_⟩
  ·simp only[Rx.ah,eA,q1];simp[cU,fE]
  ·simp only[Rx.ah,List.mem_append,List.mem_cons,List.not_mem_nil,or_false]at he
   rcases he with(he|he)|he|he|he|he
   ·exact q3 e he hf ht
   ·have:=b.bR _ e he;omega
   all_goals (subst he;cases hf)
 |rep k a ih=>
  intro n h
  simp only[Rx.lf,Bool.and_eq_true,decide_eq_true_eq]at h
  obtain⟨rfl,h⟩:=h
  obtain⟨r,q1,q2,q3⟩:=ih n h
  refine⟨r,?_,by simp[Rx.pre,q2],λe he hf ht=>?_⟩
  ·simp only[Rx.ah,eA,q1];simp[cU,fE]
  ·simp only[Rx.ah,List.mem_append,List.mem_cons,List.not_mem_nil,or_false]at he
   rcases he with((he|he|he)|he)|he
   ·exact q3 e he hf ht
   ·subst he;cases hf
   ·subst he;cases hf
   ·simp at he
   ·simp at he;subst he;cases hf
end
noncomputable section
inductive Rch(t:Rx):(Nat->Bool)->Prop
 |ini {g:Nat->Bool} (h:dH (t.ah 0) (λx=>decide (x=t.fst 0)) g):Rch t g
 |step {f g:Nat->Bool} {c:Nat} (hc:c<256) (hf:Rch t f) (h:dH (t.ah 0) (aB (t.ah 0) f c) g):Rch t g
theorem cR{E:List Ed}{f:Nat->Bool}{c x:Nat}:aB E f c x=true↔∃ e∈E,e.2.2.2=false/\f e.1=true/\hasB e.2.2.1 c=true/\x=e.2.1:=by
 unfold aB
 rw[List.any_eq_true]
 simp only[Bool.and_eq_true,Bool.not_eq_true',decide_eq_true_eq]
theorem Rch.Nn{t:Rx}{g:Nat->Bool}(h:Rch t g):KQ (t.ah 0) (λx=>decide (x=t.fst 0)) g:=by
 cases h with
 |ini h=>exact .inl h
 |step _ _ h=>exact .inr ⟨_,_,h⟩
theorem Rch.lvl{t:Rx}(hl:t.lin=true){g:Nat->Bool}(h:Rch t g):∃ m,∀ q,g q=true->t.lvl 0 q=m:=by
 have clo:∀ m,iw (t.ah 0) (λq=>decide (t.lvl 0 q=m)):=by
  intro m e he hf h
  have:=t.tT 0 hl e he
  rw[hf]at this
  simp only[decide_eq_true_eq]at h |-
  simp at this
  omega
 induction h with
 |ini h=>
  refine⟨0,λq hq=>?_⟩
  have:=h.2.2 _ (clo 0) (λx hx=>by
   rw[decide_eq_true_eq]at hx
   subst hx
   simpa using t.qV 0) q hq
  simpa using this
 |step hc hf h ih=>
  obtain⟨m,ih⟩:=ih
  refine⟨m+1,λq hq=>?_⟩
  have:=h.2.2 _ (clo (m+1)) (λx hx=>by
   obtain⟨e,he,h1,h2,_,rfl⟩:=cR.1 hx
   have:=t.tT 0 hl e he
   rw[h1,ih _ h2]at this
   simpa using this) q hq
  simpa using this
theorem Cu{t:Rx}(hl:t.lin=true)(l:List (Nat->Bool))(hn:l.Nodup)(h:∀ g∈l,Rch t g):l.length<=t.bg+3:=by
 refine qJ (λ(g:Nat->Bool) (k:Nat)=>(k=0/\dH (t.ah 0) (λx=>decide (x=t.fst 0)) g)\/(k=1/\dH (t.ah 0) (λ_=>false) g)\/
  (∃ f x,dH (t.ah 0) f g/\x∈cU (t.ah 0)/\(∀ y,f y=true↔y=x)/\k=t.lvl 0 x+2)) ?_ (t.bg+3) l hn ?_
 ·rintro a b k (⟨rfl,h1⟩|⟨rfl,h1⟩|⟨f,x,h1,h2,h3,rfl⟩) (⟨e,g1⟩|⟨e,g1⟩|⟨f',x',g1,g2,g3,e⟩)
  ·exact cI h1 g1
  ·omega
  ·omega
  ·omega
  ·exact cI h1 g1
  ·omega
  ·omega
  ·omega
  ·have:x=x':=(t.xt 0 hl x h2).2.2 x' g2 (by omega)
   subst this
   have:f=f':=by
    funext y
    rw[Bool.eq_iff_iff,h3,g3]
   rw[this]at h1
   exact cI h1 g1
 ·intro g hg
  have hr:=h g hg
  cases hr with
  |ini h=>exact⟨0,by omega,.inl ⟨rfl,h⟩⟩
  | @step f g c hc hf h=>
   by_cases hx:∃ x,aB (t.ah 0) f c x=true
   ·obtain⟨x,hx⟩:=hx
    have hxt:=jO hx
    have hb:=t.xt 0 hl x hxt
    refine⟨t.lvl 0 x+2,by omega,.inr (.inr ⟨_,x,h,hxt,λy=>⟨λhy=>?_,λe=>e ▸ hx⟩,rfl⟩)⟩
    obtain⟨m,hm⟩:=(Rch.step hc hf h).lvl hl
    have e1:=hm _ (h.1 _ hx)
    have e2:=hm _ (h.1 _ hy)
    exact(hb.2.2 y (jO hy) (by omega)).symm
   ·refine⟨1,by omega,.inr (.inl ⟨rfl,?_⟩)⟩
    have:aB (t.ah 0) f c=λ_=>false:=by
     funext x
     cases hs:aB (t.ah 0) f c x
     ·rfl
     ·exact absurd ⟨x,hs⟩ hx
    rw[this]at h
    exact h
theorem tU{t:Rx}{f g:Nat->Bool}{c:Nat}(h:dH (t.ah 0) (aB (t.ah 0) f c) g):∀ q,t.pre 0 q=true->g q=false:=by
 intro q hq
 have:=h.2.2 (λq=>!t.pre 0 q) (λe he hf hp=>by
  simp only[Bool.not_eq_true']at hp |-
  cases hc:t.pre 0 e.2.1
  ·rfl
  ·rw[(t.Cs 0 e he hc).2]at hp;cases hp) (λx hx=>by
  obtain⟨e,he,h1,_,_,rfl⟩:=cR.1 hx
  simp only[Bool.not_eq_true']
  cases hc:t.pre 0 e.2.1
  ·rfl
  ·rw[(t.Cs 0 e he hc).1]at h1;cases h1) q
 cases hg:g q
 ·rfl
 ·have:=this hg
  simp[hq]at this
theorem KT{t:Rx}(hl:t.lf=true)(l:List (Nat->Bool))(hn:l.Nodup)(h:∀ g∈l,Rch t g):l.length<=257+2 ^ (t.bg-1):=by
 obtain⟨r,q1,q2,q3⟩:=t.Ct 0 hl
 have hrl:r.length=t.bg-1:=by
  have:=oh t 0
  rw[q1]at this
  simp at this
  omega
 refine qJ (λ(g:Nat->Bool) (k:Nat)=>(k=0/\dH (t.ah 0) (λx=>decide (x=t.fst 0)) g)\/(∃ c f,c<256/\dH (t.ah 0) (λx=>decide (x=t.fst 0)) f/\dH (t.ah 0) (aB (t.ah 0) f c) g/\k=1+c)\/
  (∃ f c,dH (t.ah 0) (aB (t.ah 0) f c) g/\aB (t.ah 0) f c 1=false/\k=257+bN (r.map (aB (t.ah 0) f c)))) ?_ (257+2 ^ (t.bg-1)) l hn ?_
 ·rintro a b k (⟨rfl,h1⟩|⟨c,f,hc,h0,h1,rfl⟩|⟨f,c,h1,h2,rfl⟩) (⟨e,g1⟩|⟨c',f',hc',g0,g1,e⟩|⟨f',c',g1,g2,e⟩)
  ·exact cI h1 g1
  ·omega
  ·omega
  ·omega
  ·have:c=c':=by omega
   subst this
   rw[cI h0 g0]at h1
   exact cI h1 g1
  ·omega
  ·omega
  ·omega
  ·have hb:=jJ (r.map (aB (t.ah 0) f c)) (r.map (aB (t.ah 0) f' c')) (by simp) (by omega)
   have:onT (t.ah 0) (aB (t.ah 0) f c)=onT (t.ah 0) (aB (t.ah 0) f' c'):=by
    unfold onT
    rw[q1]
    simp only[List.map_cons,Nat.zero_add]
    rw[h2,g2,hb]
   rw[lQ this]at h1
   exact cI h1 g1
 ·intro g hg
  have hr:=h g hg
  cases hr with
  |ini h=>exact⟨0,by have:=Nat.zero_le (2 ^ (t.bg-1));omega,.inl ⟨rfl,h⟩⟩
  | @step f g c hc hf h=>
   cases hf with
   |ini h0=>exact⟨1+c,by have:=Nat.zero_le (2 ^ (t.bg-1));omega,.inr (.inl ⟨c,f,hc,h0,h,rfl⟩)⟩
   | @step f0 f c0 hc0 hf0 h0=>
    have hb:=gQ (r.map (aB (t.ah 0) f c))
    rw[List.length_map,hrl]at hb
    refine⟨_,?_,.inr (.inr ⟨f,c,h,?_,rfl⟩)⟩
    ·omega
    ·cases hs:aB (t.ah 0) f c 1
     ·rfl
     ·obtain⟨e,he,h1,h2,_,h3⟩:=cR.1 hs
      rw[q3 e he h1 (by omega),tU h0 0 q2]at h2
      cases h2
def Bq(k:Int)(S0 S1 S2:List Int):Rx:=.cat (.cat (.rep k (.set S0)) (.set S1)) (.set S2)
theorem dJ{k:Int}(hk:k≠6){S0 S1 S2:List Int}{e:Ed}:e∈(Bq k S0 S1 S2).ah 0↔e=(0,1,S0,false)\/e=fE 2 0\/e=fE 1 3\/e=fE 1 0\/(k≠5/\e=fE 2 3)\/e=(4,5,S1,false)\/e=fE 6 2\/e=fE 3 4\/e=fE 5 7\/e=(8,9,S2,false)\/e=fE 10 6\/e=fE 7 8\/e=fE 9 11:=by
 by_cases h5:k=5
 ·simp[Bq,Rx.ah,Rx.len,Rx.fst,Rx.lst,hk,h5,or_assoc]
 ·simp[Bq,Rx.ah,Rx.len,Rx.fst,Rx.lst,hk,h5,or_assoc]
structure LqB(t:Rx)(k:Int)(S0 S1 S2:List Int):Prop where
 hk:k≠6
 sm:lR S0
 tg:∃ r,cU (t.ah 0)=1::5::9::r
 ed:∀ e∈t.ah 0,e.2.1<12->e.2.1≠10->e∈(Bq k S0 S1 S2).ah 0
 sub:∀ e∈(Bq k S0 S1 S2).ah 0,e∈t.ah 0
 len:6<=t.len
 p2:t.pre 0 2=true
 c8:t.cl 0 8=false
 nl:t.null=false
theorem Lq.bot{t:Rx}(h:t.Lq)(h3:3<=t.bg):∃ k S0 S1 S2,LqB t k S0 S1 S2:=by
 induction h with
 |rep hk hS=>simp[Rx.bg]at h3
 | @cat a S ha ih=>
  by_cases h3':3<=a.bg
  ·obtain⟨k,S0,S1,S2,b⟩:=ih h3'
   obtain⟨r,hr⟩:=b.tg
   have hl:=b.len
   refine⟨k,S0,S1,S2,b.hk,b.sm,⟨r++cU ((Rx.set S).ah (0+2*a.len)),?_⟩,λe he h1 h2=>?_,λe he=>?_,?_,?_,?_,?_⟩
   ·simp only[Rx.ah,eA,hr];simp[cU,fE]
   ·simp only[Rx.ah,List.mem_append,List.mem_cons,List.not_mem_nil,or_false]at he
    rcases he with(he|he)|he|he|he
    ·exact b.ed e he h1 h2
    ·subst he;simp at h1;omega
    ·subst he;simp only[fE,Rx.fst]at h1 h2;omega
    ·subst he;simp only[fE,Rx.fst,Rx.len]at h1 h2;omega
    ·subst he;simp only[fE,Rx.len]at h1 h2;omega
   ·simp only[Rx.ah,List.mem_append]
    exact .inl (.inl (b.sub e he))
   ·simp only[Rx.len];omega
   ·simp only[Rx.pre,b.p2,Bool.or_true]
   ·simp only[Rx.cl,b.c8,b.nl,Rx.len,Rx.null]
    simp
    omega
   ·simp[Rx.null]
  ·cases ha with
   |rep hk hS=>simp[Rx.bg]at h3
   | @cat a' S' ha'=>
    cases ha' with
    | @rep k S0 hk hS=>
     refine⟨k,S0,S',S,hk,hS,⟨[],?_⟩,λe he _ _=>he,λe he=>he,by simp[Rx.len],by simp[Rx.pre,Rx.len],by simp[Rx.cl,Rx.len,Rx.null],by simp[Rx.null]⟩
     simp only[Rx.ah,eA]
     by_cases h5:k=5 <;> simp[cU,fE,Rx.len,hk,h5]
    |cat h=>
     exfalso
     cases h <;> simp[Rx.bg]at h3' h3 <;> omega
section
variable {t:Rx} {k:Int} {S0 S1 S2:List Int}
theorem LqB.at1(b:LqB t k S0 S1 S2){h:Nat->Bool}{c:Nat}(hs:aB (t.ah 0) h c 1=true):h 0=true/\hasB S0 c=true:=by
 obtain⟨e,he,h1,h2,h3,h4⟩:=cR.1 hs
 have:=b.ed e he (by omega) (by omega)
 rw[dJ b.hk]at this
 rcases this with rfl|rfl|rfl|rfl|⟨_,rfl⟩|rfl|rfl|rfl|rfl|rfl|rfl|rfl|rfl <;> simp[fE]at h1 h4
 exact⟨h2,h3⟩
theorem LqB.at5(b:LqB t k S0 S1 S2){h:Nat->Bool}{c:Nat}(hs:aB (t.ah 0) h c 5=true):h 4=true/\hasB S1 c=true:=by
 obtain⟨e,he,h1,h2,h3,h4⟩:=cR.1 hs
 have:=b.ed e he (by omega) (by omega)
 rw[dJ b.hk]at this
 rcases this with rfl|rfl|rfl|rfl|⟨_,rfl⟩|rfl|rfl|rfl|rfl|rfl|rfl|rfl|rfl <;> simp[fE]at h1 h4
 exact⟨h2,h3⟩
theorem LqB.at9(b:LqB t k S0 S1 S2){h:Nat->Bool}{c:Nat}(hs:aB (t.ah 0) h c 9=true):h 8=true:=by
 obtain⟨e,he,h1,h2,h3,h4⟩:=cR.1 hs
 have:=b.ed e he (by omega) (by omega)
 rw[dJ b.hk]at this
 rcases this with rfl|rfl|rfl|rfl|⟨_,rfl⟩|rfl|rfl|rfl|rfl|rfl|rfl|rfl|rfl <;> simp[fE]at h1 h4
 exact h2
theorem LqB.no(b:LqB t k S0 S1 S2){h:Nat->Bool}{c q:Nat}(hq:q=0\/q=3\/q=4\/q=7\/q=8):aB (t.ah 0) h c q=false:=by
 cases hs:aB (t.ah 0) h c q
 ·rfl
 ·exfalso
  obtain⟨e,he,h1,h2,h3,h4⟩:=cR.1 hs
  have:=b.ed e he (by omega) (by omega)
  rw[dJ b.hk]at this
  rcases this with rfl|rfl|rfl|rfl|⟨_,rfl⟩|rfl|rfl|rfl|rfl|rfl|rfl|rfl|rfl <;> simp[fE]at h1 h4 <;> omega
theorem LqB.free(b:LqB t k S0 S1 S2){e:Ed}(he:e∈t.ah 0)(hf:e.2.2.2=true)(hq:e.2.1<10):e.2.1=0/\(e.1=1\/e.1=2)\/e.2.1=3/\(e.1=1\/e.1=2)\/e.2.1=2\/e.2.1=6\/e.2.1=4/\e.1=3\/e.2.1=7/\e.1=5\/e.2.1=8/\e.1=7:=by
 have:=b.ed e he (by omega) (by omega)
 rw[dJ b.hk]at this
 rcases this with rfl|rfl|rfl|rfl|⟨_,rfl⟩|rfl|rfl|rfl|rfl|rfl|rfl|rfl|rfl <;> simp[fE]at hf hq |-
theorem LqB.r8(b:LqB t k S0 S1 S2){h f:Nat->Bool}{c:Nat}(hc:dH (t.ah 0) (aB (t.ah 0) f c) h)(h8:h 8=true):aB (t.ah 0) f c 5=true:=by
 cases h5:aB (t.ah 0) f c 5
 ·exfalso
  have:=hc.2.2 (λq=>!(decide (q=5)||(decide (q=7)||decide (q=8)))) (λe he hf hd=>by
   cases hx:(decide (e.2.1=5)||(decide (e.2.1=7)||decide (e.2.1=8)))
   ·show(!_)=true
    rw[hx];rfl
   ·exfalso
    simp only[Bool.or_eq_true,decide_eq_true_eq]at hx
    have:=b.free he hf (by omega)
    simp at hd
    omega) (λx hx=>by
   cases hy:(decide (x=5)||(decide (x=7)||decide (x=8)))
   ·show(!_)=true
    rw[hy];rfl
   ·exfalso
    simp only[Bool.or_eq_true,decide_eq_true_eq]at hy
    rcases hy with rfl|rfl|rfl
    ·rw[h5]at hx;cases hx
    ·rw[b.no (by omega)]at hx;cases hx
    ·rw[b.no (by omega)]at hx;cases hx) 8 h8
  simp at this
 ·rfl
theorem LqB.r1(b:LqB t k S0 S1 S2){h f:Nat->Bool}{c:Nat}(hc:dH (t.ah 0) (aB (t.ah 0) f c) h)(h8:h 4=true\/h 0=true):aB (t.ah 0) f c 1=true:=by
 cases h5:aB (t.ah 0) f c 1
 ·exfalso
  have hp:=tU hc 2 b.p2
  have key:=hc.2.2 (λq=>h q&&!(decide (q=1)||(decide (q=3)||(decide (q=4)||decide (q=0))))) (λe he hf hd=>by
   simp only[Bool.and_eq_true]at hd |-
   refine⟨hc.2.1 e he hf hd.1,?_⟩
   cases hx:(decide (e.2.1=1)||(decide (e.2.1=3)||(decide (e.2.1=4)||decide (e.2.1=0))))
   ·rfl
   ·exfalso
    simp only[Bool.or_eq_true,decide_eq_true_eq]at hx
    have:=b.free he hf (by omega)
    have h2:e.1≠2:=λe2=>by have h1:=hd.1;rw[e2,hp]at h1;cases h1
    have h3:=hd.2
    simp at h3
    omega) (λx hx=>by
   simp only[Bool.and_eq_true]
   refine⟨hc.1 x hx,?_⟩
   cases hy:(decide (x=1)||(decide (x=3)||(decide (x=4)||decide (x=0))))
   ·rfl
   ·exfalso
    simp only[Bool.or_eq_true,decide_eq_true_eq]at hy
    rcases hy with rfl|rfl|rfl|rfl
    ·rw[h5]at hx;cases hx
    ·rw[b.no (by omega)]at hx;cases hx
    ·rw[b.no (by omega)]at hx;cases hx
    ·rw[b.no (by omega)]at hx;cases hx)
  rcases h8 with h8|h8
  ·have:=key 4 h8;simp at this
  ·have:=key 0 h8;simp at this
 ·rfl
theorem LqB.xu(b:LqB t k S0 S1 S2){h:Nat->Bool}(hr:Rch t h)(h8:h 8=true):∃ f c,c<256/\dH (t.ah 0) (aB (t.ah 0) f c) h:=by
 cases hr with
 |ini hi=>
  exfalso
  have:=hi.2.2 (t.cl 0) (λe he hf hp=>t.wU 0 e he hf hp) (λx hx=>by
   rw[decide_eq_true_eq]at hx
   rw[hx];exact t.jl 0) 8 h8
  rw[b.c8]at this
  cases this
 |step hc _ hi=>exact⟨_,_,hc,hi⟩
theorem LqB.X(b:LqB t k S0 S1 S2){h:Nat->Bool}(hr:Rch t h){c:Nat}(hc:c<256)(h1:aB (t.ah 0) h c 1=false)(h5:aB (t.ah 0) h c 5=true)(h9:aB (t.ah 0) h c 9=true):hasB S0 c=false:=by
 obtain⟨f,c',hc',hi⟩:=b.xu hr (b.at9 h9)
 have f1:=b.r1 hi (.inl (b.at5 h5).1)
 have g1:=hi.1 _ f1
 have g0:=hi.2.1 (fE 1 0) (b.sub _ ((dJ b.hk).2 (by simp))) rfl g1
 cases hs:hasB S0 c
 ·rfl
 ·have:aB (t.ah 0) h c 1=true:=cR.2 ⟨(0,1,S0,false),b.sub _ ((dJ b.hk).2 (by simp)),rfl,g0,hs,rfl⟩
  rw[h1]at this;cases this
theorem LqB.Y(b:LqB t k S0 S1 S2){h:Nat->Bool}(hr:Rch t h){c:Nat}(hc:c<256)(h1:aB (t.ah 0) h c 1=true)(h5:aB (t.ah 0) h c 5=false)(h9:aB (t.ah 0) h c 9=true):∃ d d',d<256/\d' < 256/\d≠d'/\hasB S0 d=true/\hasB S0 d'=true:=by
 obtain⟨f,c',hc',hi⟩:=b.xu hr (b.at9 h9)
 have f5:=b.r8 hi (b.at9 h9)
 have f1:=b.r1 hi (.inr (b.at1 h1).1)
 have g1:=hi.1 _ f1
 have g3:=hi.2.1 (fE 1 3) (b.sub _ ((dJ b.hk).2 (by simp))) rfl g1
 have g4:=hi.2.1 (fE 3 4) (b.sub _ ((dJ b.hk).2 (by simp))) rfl g3
 refine⟨c,c',hc,hc',?_,(b.at1 h1).2,(b.at1 f1).2⟩
 rintro rfl
 have:aB (t.ah 0) h c 5=true:=cR.2 ⟨(4,5,S1,false),b.sub _ ((dJ b.hk).2 (by simp)),rfl,g4,(b.at5 f5).2,rfl⟩
 rw[h5]at this;cases this
theorem LqB.Fu(b:LqB t k S0 S1 S2){d d' c:Nat}(hc:c<256)(hX:hasB S0 c=false)(hd:d<256)(hd':d' < 256)(hne:d≠d')(h1:hasB S0 d=true)(h2:hasB S0 d'=true):False:=by
 rcases b.sm with h|⟨v,h⟩
 ·rw[h,kT _ hc]at hX;cases hX
 ·rw[h,kT _ hd]at h1
  rw[h,kT _ hd']at h2
  unfold lI at h1 h2
  simp only[decide_eq_true_eq]at h1 h2
  omega
theorem Cv{E:List Ed}{f0:Nat->Bool}{r:List Nat}(hr:cU E=1::5::9::r)(x0 x1 x2:Bool)(l:List (Nat->Bool))(hn:l.Nodup)(h:∀ g∈l,dH E f0 g\/∃ f c,dH E (aB E f c) g/\¬(aB E f c 1=x0/\aB E f c 5=x1/\aB E f c 9=x2)):l.length<=1+7*2 ^ r.length:=by
 have code:∀ (p v:Nat),v % 8≠p->p<8->(if v % 8<p then v % 8 else v % 8-1)<7:=by intro p v h1 h2;split <;> omega
 refine qJ (λ(g:Nat->Bool) (k:Nat)=>(k=0/\dH E f0 g)\/(∃ f c,dH E (aB E f c) g/\bN (onT E (aB E f c)) % 8≠bN [x0,x1,x2]/\
  k=1+(7*(bN (onT E (aB E f c)) / 8)+(if bN (onT E (aB E f c)) % 8<bN [x0,x1,x2]then bN (onT E (aB E f c)) % 8 else bN (onT E (aB E f c)) % 8-1)))) ?_ (1+7*2 ^ r.length) l hn ?_
 ·have hp:bN [x0,x1,x2]<8:=gQ [x0,x1,x2]
  rintro a b k (⟨rfl,h1⟩|⟨f,c,h1,h2,rfl⟩) (⟨e,g1⟩|⟨f',c',g1,g2,e⟩)
  ·exact cI h1 g1
  ·omega
  ·omega
  ·have hb:bN (onT E (aB E f c))=bN (onT E (aB E f' c')):=by
    generalize bN (onT E (aB E f c))=u at *
    generalize bN (onT E (aB E f' c'))=v at *
    generalize bN [x0,x1,x2]=p at *
    have c1:=code p u h2 hp
    have c2:=code p v g2 hp
    have e1:u / 8=v / 8:=by omega
    have e2:u % 8=v % 8:=by
     split at e <;> split at e <;> omega
    omega
   rw[lQ (jJ _ _ (by rw[kV,kV]) hb)]at h1
   exact cI h1 g1
 ·intro g hg
  rcases h g hg with h|⟨f,c,h1,h2⟩
  ·exact⟨0,by omega,.inl ⟨rfl,h⟩⟩
  ·have hp:bN [x0,x1,x2]<8:=gQ [x0,x1,x2]
   have hv:bN (onT E (aB E f c))=bN [aB E f c 1,aB E f c 5,aB E f c 9]+8*bN (r.map (aB E f c)):=by
    unfold onT
    rw[hr]
    simp only[List.map_cons,bN]
    omega
   have h3:bN [aB E f c 1,aB E f c 5,aB E f c 9]<8:=gQ [aB E f c 1,aB E f c 5,aB E f c 9]
   have hm:bN (onT E (aB E f c)) % 8≠bN [x0,x1,x2]:=by
    intro e
    have e3:bN [aB E f c 1,aB E f c 5,aB E f c 9]=bN [x0,x1,x2]:=by omega
    have:=jJ [aB E f c 1,aB E f c 5,aB E f c 9] [x0,x1,x2] rfl e3
    injection this with a1 a2
    injection a2 with a2 a3
    injection a3 with a3
    exact h2 ⟨a1,a2,a3⟩
   have hrl:=gQ (r.map (aB E f c))
   rw[List.length_map]at hrl
   have hc:=code _ _ hm hp
   refine⟨_,?_,.inr ⟨f,c,h1,hm,rfl⟩⟩
   omega
theorem KU(b:LqB t k S0 S1 S2)(l:List (Nat->Bool))(hn:l.Nodup)(h:∀ g∈l,Rch t g):l.length<=1+7*2 ^ (t.bg-3):=by
 obtain⟨r,hr⟩:=b.tg
 have hrl:r.length=t.bg-3:=by
  have:=oh t 0
  rw[hr]at this
  simp at this
  omega
 rw[<-hrl]
 by_cases hX:∃ c,c<256/\hasB S0 c=false
 ·obtain⟨c0,hc0,hX⟩:=hX
  refine Cv (f0:=λx=>decide (x=t.fst 0)) hr true false true l hn (λg hg=>?_)
  have hr:=h g hg
  cases hr with
  |ini h=>exact .inl h
  | @step f g c hc hf h=>
   refine .inr ⟨f,c,h,λ⟨a1,a2,a3⟩=>?_⟩
   obtain⟨d,d',q1,q2,q3,q4,q5⟩:=b.Y hf hc a1 a2 a3
   exact b.Fu hc0 hX q1 q2 q3 q4 q5
 ·refine Cv (f0:=λx=>decide (x=t.fst 0)) hr false true true l hn (λg hg=>?_)
  have hr:=h g hg
  cases hr with
  |ini h=>exact .inl h
  | @step f g c hc hf h=>
   refine .inr ⟨f,c,h,λ⟨a1,a2,a3⟩=>hX ⟨c,hc,b.X hf hc a1 a2 a3⟩⟩
end
theorem zz{t:Rx}(hw:t.wt<=12)(l:List (Nat->Bool))(hn:l.Nodup)(h:∀ g∈l,Rch t g):l.length<=2000:=by
 have ho:=t.du
 rcases Nat.lt_or_ge t.bg 11 with h10|h11
 ·have:=Fg (E:=t.ah 0) l hn (λg hg=>(h g hg).Nn)
  rw[oh]at this
  have h2:2 ^ t.bg<=2 ^ 10:=Nat.pow_le_pow_right (by omega) (by omega)
  omega
 ·rcases Nat.lt_or_ge t.bg 12 with h12|h12
  ·have h1:t.bg=11:=by omega
   rcases H2 t (by omega)with hl|hl|hl
   ·have:=Cu hl l hn h;omega
   ·have:=KT hl l hn h
    rw[h1]at this
    omega
   ·obtain⟨k,S0,S1,S2,b⟩:=Lq.bot hl (by omega)
    have:=KU b l hn h
    rw[h1]at this
    omega
  ·have:=Cu (oj t (by omega)).2.1 l hn h
   omega
end
noncomputable section
theorem Cw(d)(q:Int):En N0 (d,(q,([],())))=some ((q,()),()):=by
 unfold En
 refine aJ (λm x r=>x=((),(q,((0:Int),())))/\r=some ((q,()),())) ?_ N0 0 _ _ (by unfold N0;omega) ⟨rfl,rfl⟩
 rintro m x r ⟨rfl,rfl⟩ k hk
 rfl
theorem zA{d}{v:Int}(h:d.2.2[0]?=some v):Ep N0 (d,(0,()))=some ((v,()),()):=by
 have hl:0<d.2.2.length:=by
  rcases Nat.lt_or_ge 0 d.2.2.length with h2|h2
  ·exact h2
  ·rw[List.getElem?_eq_none h2]at h;cases h
 have g:d.2.2[((0:Int)).toNat]?=some v:=h
 unfold Ep
 simp only
 refine av ((),(false,())) (λK=>?_) ?_
 ·rw[show decide ((0:Int)<0)=false from rfl,cond_false,decide_eq_false (show ¬((d.2.2.length:Nat):Int)<=0 by omega)]
 ·simp only
  rw[cond_false,if_pos z0,g]
theorem tV{d}{v:Int}(h:d.2.2[0]?=some v):Er N0 (d,([],()))=some ((v,()),()):=by
 unfold Er
 simp only
 rw[aa (Cw d 0)]
 simp only
 rw[aa (zA h)]
end
noncomputable section
theorem ix{s:List Int}{e:Int}(h:cG s=.error e):e=5\/e=6:=by
 unfold cG at h
 split at h
 ·injection h with h;omega
 split at h
 ·injection h with h;omega
 split at h
 ·injection h with h;omega
 split at h
 ·injection h with h;omega
 ·cases h
def No:List Int×(List (List Int)×List Int):=(List.replicate 256 0,([],[]))
theorem tW{s:List Int}(hb:Bytes s)(hsm:s.length<=maxLen){e:Int}(h:cG s=.error e):qC N0 (s,())=some ((No,(e,())),()):=by
 have he:=ix h
 unfold qC
 simp only
 rw[aa (w7 hb hsm),h]
 simp only[B7]
 rcases he with rfl|rfl <;> rfl
theorem qW{s:List Int}(hb:Bytes s)(hsm:s.length<=maxLen){t:Rx}(h:cG s=.ok t){d}{c:Int}(hd:BC N0 (nfT t,())=some ((d,(c,())),())):qC N0 (s,())=some ((d,(c,())),()):=by
 obtain⟨h1,h2,h3⟩:=jN hb h
 unfold qC
 simp only
 rw[aa (w7 hb hsm),h]
 simp only[B7]
 rw[decide_true,Bool.not_true,cond_false,aa (E4 h1 h2)]
 simp only
 rw[decide_true,Bool.not_true,cond_false,aa hd]
def mkJ(n j:Nat):List Int:=(List.range n).map λq=>if q<j then -1 else 0
theorem gr(n j:Nat):(mkJ n j).length=n:=by simp[mkJ]
theorem jP{n:Nat}(j:Nat){i:Nat}(h:i<n):(mkJ n j)[i]?=some (if i<j then -1 else 0):=by
 unfold mkJ
 rw[List.getElem?_map,List.getElem?_range h]
 rfl
theorem Fv{n j:Nat}(h:j<n):(mkJ n j).set j (-1)=mkJ n (j+1):=by
 apply List.ext_getElem?
 intro i
 rw[List.getElem?_set]
 by_cases hi:i<n
 ·rw[jP j hi,jP (j+1) hi]
  by_cases e:j=i
  ·subst e
   rw[if_pos rfl,if_pos (by rw[gr];exact h),if_pos (by omega)]
  ·rw[if_neg e]
   by_cases h2:i<j
   ·rw[if_pos h2,if_pos (by omega)]
   ·rw[if_neg h2,if_neg (by omega)]
 ·have e1:(mkJ n (j+1))[i]?=none:=List.getElem?_eq_none (by rw[gr];omega)
  have e2:(mkJ n j)[i]?=none:=List.getElem?_eq_none (by rw[gr];omega)
  rw[e1,e2,if_neg (by omega)]
theorem Cx{n last:Nat}(h:last<n):(mkJ n n).set last 0=mkL n last:=by
 apply List.ext_getElem?
 intro i
 rw[List.getElem?_set]
 by_cases hi:i<n
 ·rw[jP n hi,xm last hi]
  by_cases e:last=i
  ·subst e
   rw[if_pos rfl,if_pos (by rw[gr];exact h),if_pos rfl]
  ·rw[if_neg e,if_pos hi,if_neg (λh=>e h.symm)]
 ·have e1:(mkL n last)[i]?=none:=List.getElem?_eq_none (by rw[xk];omega)
  have e2:(mkJ n n)[i]?=none:=List.getElem?_eq_none (by rw[gr];omega)
  rw[e1,e2,if_neg (by omega)]
theorem Cy(n:Nat):List.replicate n (0:Int)=mkJ n 0:=by
 apply List.ext_getElem?
 intro i
 by_cases hi:i<n
 ·rw[jP 0 hi,List.getElem?_replicate,if_pos hi,if_neg (by omega)]
 ·rw[List.getElem?_eq_none (by rw[List.length_replicate];omega),List.getElem?_eq_none (by rw[gr];omega)]
theorem qX{t:Rx}(hl:t.len<=400){d}{c:Int}(hd:vo N0 (nfT t,(mkL (2*t.len) (t.lst 0),()))=some ((d,(c,())),())):BC N0 (nfT t,())=some ((d,(c,())),()):=by
 have NB:=t.fU 0
 have hn8:2*t.len<=800:=by omega
 have hN:(nfT t).1=((2*t.len:Nat):Int):=rfl
 have hL:(nfT t).2.2.2=((t.lst 0:Nat):Int):=rfl
 unfold BC
 simp only
 rw[aa (oe hl)]
 simp only
 rw[Bool.not_true,cond_false]
 simp only[hN,hL]
 generalize 2*t.len=n at *
 generalize t.lst 0=last at *
 have hln:last<n:=by omega
 rw[if_pos ⟨by omega,by omega⟩,if_pos (by rw[Int.toNat_natCast];omega),Int.toNat_natCast,Cy]
 generalize (List.replicate 256 (0:Int),(([]:List (List Int)),([]:List Int)))=Z
 refine aJ (λm x q=>∃ j:Nat,x=((Z,(mkJ n j,())),((j:Int),()))/\m+j=n/\q=some ((d,(c,())),())) ?_ N0 n _ _ (by unfold N0;omega) ⟨0,rfl,rfl,rfl⟩
 rintro m x q ⟨j,rfl,hm,rfl⟩ k hk
 simp only
 rcases Nat.lt_or_ge j n with hj|hj
 ·have n0:(0:Int)<=(j:Int):=by omega
  rw[decide_eq_true (show(j:Int)<(((mkJ n 0).length:Nat):Int) by rw[gr];omega),cond_true,if_pos n0,Int.toNat_natCast,jP j hj]
  simp only
  rw[if_pos n0]
  rw[Fv hj,bf (by omega)]
  exact hk (m-1) _ _ (by omega) ⟨j+1,rfl,by omega,rfl⟩
 ·have:j=n:=by omega
  subst this
  have n0:(0:Int)<=(last:Int):=by omega
  rw[decide_eq_false (show ¬(j:Int)<(((mkJ j 0).length:Nat):Int) by rw[gr];omega),cond_false,if_pos n0,Int.toNat_natCast,jP j hln]
  simp only
  rw[if_pos n0]
  rw[Cx hln,aa hd]
end
noncomputable section
abbrev KM:=List (List Int×Int)
def eqK:List Int->List Int->Bool:=λa b=>decide (a=b)
theorem Cz(k k':List Int)(v:Int):∀ x:KM,eF eqK k (dm eqK k' v x)=(decide (k=k')||eF eqK k x):=by
 intro x
 induction x with
 |nil=>simp[dm,eF,eqK]
 |cons p r ih=>
  simp only[dm]
  by_cases e:k'=p.1
  ·have:eqK k' p.1=true:=decide_eq_true e
   rw[this,cond_true]
   simp only[eF]
   rw[<-e]
   by_cases e2:k=k'
   ·rw[show eqK k k'=true from decide_eq_true e2,decide_eq_true e2];rfl
   ·rw[show eqK k k'=false from decide_eq_false e2,decide_eq_false e2];rfl
  ·have:eqK k' p.1=false:=decide_eq_false e
   rw[this,cond_false]
   simp only[eF]
   by_cases e2:k=p.1
   ·rw[show eqK k p.1=true from decide_eq_true e2,cond_true,cond_true,Bool.or_true]
   ·rw[show eqK k p.1=false from decide_eq_false e2,cond_false,cond_false,ih]
def Sup(n:Nat)(g:Nat->Bool):Prop:=∀ q,g q=true->q<n
theorem Sup.ext{n:Nat}{g g':Nat->Bool}(h:Sup n g)(h':Sup n g')(he:∀ i,i<n->g i=g' i):g=g':=by
 funext q
 by_cases hq:q<n
 ·exact he q hq
 ·cases h1:g q
  ·cases h2:g' q
   ·rfl
   ·exact absurd (h' q h2) hq
  ·exact absurd (h q h1) hq
theorem Sup.cut{n:Nat}{g:Nat->Bool}(h:Sup n g):vH n g=g:=by
 funext q
 unfold vH
 cases hg:g q
 ·simp
 ·simp[h q hg]
abbrev BI:=NfI×(List Int×(List Int×(KM×(List (List Bool)×(List Int×(List (List Int)×List Int))))))
structure BOk(N:NfI)(n last:Nat)(cu cls:List Int)(b:BI)(gs:List (Nat->Bool)):Prop where
 nf:b.1=N
 mks:b.2.1=mkL n last
 rp:b.2.2.1=cu
 key:∀ k,eF eqK k b.2.2.2.1=true↔∃ g∈gs,k=dr n g
 bE:b.2.2.2.2.1=gs.map (bsN n)
 cl:b.2.2.2.2.2.1=cls
 mark:b.2.2.2.2.2.2.2=gs.map λg=>dV g last n
 sup:∀ g∈gs,Sup n g
def qY(g:Nat->Bool):Nat->Bool
 |0=>false
 |i+1=>qY g i||g i
theorem CA{g:Nat->Bool}:∀ {i:Nat},qY g i=true↔∃ q,q<i/\g q=true:=by
 intro i
 induction i with
 |zero=>
  constructor
  ·intro h;cases h
  ·rintro⟨q,h,_⟩;omega
 |succ i ih=>
  simp only[qY,Bool.or_eq_true,ih]
  constructor
  ·rintro(⟨q,h1,h2⟩|h)
   ·exact⟨q,by omega,h2⟩
   ·exact⟨i,by omega,h⟩
  ·rintro⟨q,h1,h2⟩
   by_cases e:q=i
   ·subst e;exact .inr h2
   ·exact .inl ⟨q,by omega,h2⟩
theorem mM{N:NfI}{n last:Nat}{cu cls:List Int}(hn:n<=100000)(hl:last<n){b:BI}{gs:List (Nat->Bool)}(hb:BOk N n last cu cls b gs)(hg:gs.length<=100000){g:Nat->Bool}(hs:Sup n g):
 ∃ (r:Int) (b':BI) (gs':List (Nat->Bool)),BB N0 (b,(bsN n g,()))=some ((r,()),(b',()))/\BOk N n last cu cls b' gs'/\b'.2.2.2.2.2.2.1=b.2.2.2.2.2.2.1/\(((gs'=gs)/\((∀ q,g q=false)\/g∈gs))\/(gs'=gs++[g]/\g∉gs)):=by
 unfold BB
 simp only
 refine bL (λm x=>∃ i:Nat,x=((b,()),(qY g i,((i:Int),())))/\m+i=n) (λz=>∃ (r:Int) (b':BI) (gs':List (Nat->Bool)),z=some ((r,()),(b',()))/\BOk N n last cu cls b' gs'/\b'.2.2.2.2.2.2.1=b.2.2.2.2.2.2.1/\(((gs'=gs)/\((∀ q,g q=false)\/g∈gs))\/(gs'=gs++[g]/\g∉gs))) ?_ N0 n _ (by unfold N0;omega) ⟨0,?_,rfl⟩
 ·rintro m x ⟨i,rfl,hm⟩ k hk
  simp only[ew]
  rcases Nat.lt_or_ge i n with hi|hi
  ·have n0:(0:Int)<=(i:Int):=by omega
   rw[decide_eq_true (show(i:Int)<((n:Nat):Int) by omega),cond_true,if_pos n0,Int.toNat_natCast,ez g hi]
   simp only
   refine jq (P:=λz=>∃ (r:Int) (b':BI) (gs':List (Nat->Bool)),z=some ((r,()),(b',()))/\BOk N n last cu cls b' gs'/\b'.2.2.2.2.2.2.1=b.2.2.2.2.2.2.1/\(((gs'=gs)/\((∀ q,g q=false)\/g∈gs))\/(gs'=gs++[g]/\g∉gs))) λK hK=>?_
   have hor:qY g (i+1)=(qY g i||g i):=rfl
   have fin:=hk (m-1) ((b,()),(qY g (i+1),(((i+1:Nat):Int),()))) (by omega) ⟨i+1,rfl,by omega⟩
   cases hd:qY g i
   ·rw[cond_false,hK]
    simp only
    rw[bf (by omega)]
    rw[hor,hd,Bool.false_or]at fin
    exact fin
   ·rw[cond_true,hK]
    simp only
    rw[bf (by omega)]
    rw[hor,hd,Bool.true_or]at fin
    exact fin
  ·have:i=n:=by omega
   subst this
   rw[decide_eq_false (show ¬(i:Int)<((i:Nat):Int) by omega),cond_false]
   cases hd:qY g i
   ·rw[Bool.not_false,cond_true]
    refine⟨-1,b,gs,rfl,hb,rfl,.inl ⟨rfl,.inl λq=>?_⟩⟩
    cases hq:g q
    ·rfl
    ·rw[CA.2 ⟨q,hs q hq,hq⟩]at hd;cases hd
   ·rw[Bool.not_true,cond_false,aa (Fa hn g)]
    simp only[hs.cut]
    show ∃ (r:Int) (b':BI) (gs':List (Nat->Bool)),(bif eF eqK (dr i g) b.2.2.2.1 then _ else _)=some ((r,()),(b',()))/\_
    cases hh:eF eqK (dr i g) b.2.2.2.1
    ·rw[cond_false]
     have hlen:b.2.2.2.2.1.length=gs.length:=by rw[hb.bE,List.length_map]
     have w9:b.2.2.2.2.2.2.2.length=gs.length:=by rw[hb.mark,List.length_map]
     rw[if_pos (by rw[hlen];simp;omega),if_pos (by rw[hlen];simp;omega)]
     rw[show(λ(a b:List Int)=>decide (a=b))=eqK from rfl]
     rw[aa (Ff hn hl (b.1,(b.2.1,(b.2.2.1,(dm eqK (dr i g) (b.2.2.2.2.1.length:Int) b.2.2.2.1,(b.2.2.2.2.1++[bsN i g],b.2.2.2.2.2))))) hb.mks g)]
     simp only
     rw[if_pos (by rw[w9];simp;omega),if_pos (by rw[w9];simp;omega)]
     refine⟨_,_,gs++[g],rfl,⟨hb.nf,hb.mks,hb.rp,λk'=>?_,?_,hb.cl,?_,?_⟩,rfl,.inr ⟨rfl,λhm=>?_⟩⟩
     ·show eF eqK k' (dm eqK (dr i g) _ _)=true↔_
      rw[Cz,Bool.or_eq_true,decide_eq_true_eq,hb.key]
      constructor
      ·rintro(h|⟨g',h1,h2⟩)
       ·exact⟨g,by simp,h⟩
       ·exact⟨g',by simp[h1],h2⟩
      ·rintro⟨g',h1,h2⟩
       rcases List.mem_append.1 h1 with h1|h1
       ·exact .inr ⟨g',h1,h2⟩
       ·simp at h1;subst h1;exact .inl h2
     ·show b.2.2.2.2.1++[bsN i g]=_
      rw[hb.bE];simp
     ·show b.2.2.2.2.2.2.2++[dV g last i]=_
      rw[hb.mark];simp
     ·intro g' hg'
      rcases List.mem_append.1 hg' with h1|h1
      ·exact hb.sup g' h1
      ·simp at h1;subst h1;exact hs
     ·have:=(hb.key (dr i g)).2 ⟨g,hm,rfl⟩
      rw[hh]at this;cases this
    ·rw[cond_true]
     refine⟨_,b,gs,rfl,hb,rfl,.inl ⟨rfl,.inr ?_⟩⟩
     obtain⟨g',h1,h2⟩:=(hb.key _).1 hh
     have:=hs.ext (hb.sup g' h1) (Cp h2)
     rw[this];exact h1
 ·rfl
end
noncomputable section
theorem xv{n x:Nat}(h:x<n):(List.replicate n false).set x true=bsN n (λq=>decide (q=x)):=by
 have h0:List.replicate n false=bsN n (λ_=>false):=by
  apply List.ext_getElem?
  intro i
  by_cases hi:i<n
  ·rw[ez (n:=n) (λ_=>false) hi,List.getElem?_replicate,if_pos hi]
  ·rw[List.getElem?_eq_none (by rw[List.length_replicate];omega),List.getElem?_eq_none (by rw[ew];omega)]
 rw[h0,qS _ h]
 congr 1
theorem xw{n x:Nat}(h:x<n):(List.replicate n false)[x]?=some false:=by
 rw[List.getElem?_replicate,if_pos h]
theorem kW{E:List Ed}{n:Nat}(hin:InE n E){f g:Nat->Bool}(hf:∀ q,f q=true->q<n)(h:dH E f g):Sup n g:=by
 intro q hq
 have:=h.2.2 (λq=>decide (q<n)) (λe he _ _=>by simpa using(hin e he).2) (λx hx=>by simpa using hf x hx) q hq
 simpa using this
theorem px{E:List Ed}{n:Nat}(hin:InE n E)(f:Nat->Bool)(c:Nat):∀ q,aB E f c q=true->q<n:=by
 intro q hq
 obtain⟨e,he,_,_,_,rfl⟩:=cR.1 hq
 exact(hin e he).2
structure ol(t:Rx)(g0:Nat->Bool)(gs:List (Nat->Bool)):Prop where
 nd:gs.Nodup
 rch:∀ g∈gs,Rch t g
 hd:gs[0]?=some g0
theorem ol.le{t:Rx}{g0:Nat->Bool}{gs:List (Nat->Bool)}(h:ol t g0 gs)(hw:t.wt<=12):gs.length<=2000:=zz hw gs h.nd h.rch
theorem ol.push{t:Rx}{g0 g:Nat->Bool}{gs:List (Nat->Bool)}(h:ol t g0 gs)(hr:Rch t g)(hn:g∉gs):ol t g0 (gs++[g]) where
 nd:=by
  rw[List.nodup_append]
  refine⟨h.nd,by simp,λa ha b hb=>?_⟩
  simp at hb
  subst hb
  rintro rfl
  exact hn ha
 rch:=λg' hg'=>by
  rcases List.mem_append.1 hg' with h1|h1
  ·exact h.rch g' h1
  ·simp at h1;subst h1;exact hr
 hd:=by
  have:=h.hd
  rw[List.getElem?_append_left (List.getElem?_eq_some_iff.1 this).1]
  exact this
def xx(l:List Int):Prop:=l.length<=256/\∀ v∈l,∃ c:Nat,c<256/\v=(c:Int)
abbrev DfI:=List Int×(List (List Int)×List Int)
def DQ(t:Rx)(z:Option ((DfI×(Int×Unit))×Unit)):Prop:=∃ d:DfI,z=some ((d,((0:Int),())),())/\d.2.2[0]?=some (if t.null=true then 0 else -1)
theorem Fw{t:Rx}(hok:t.ok)(hlen:t.len<=400)(hw:t.wt<=12):
 DQ t (vo N0 (nfT t,(mkL (2*t.len) (t.lst 0),()))):=by
 have hin:=lO t
 have hE:=dU t 0
 have hS:=Cn t hok 0
 have Np:=t.fU 0
 have Nq:=t.jm 0
 have hn:2*t.len<=100000:=by omega
 unfold vo
 simp only
 rw[aa (oe hlen)]
 simp only
 rw[Bool.not_true,cond_false,show nfT t=(((2*t.len:Nat):Int),((t.ah 0).map edI,(((t.fst 0:Nat):Int),((t.lst 0:Nat):Int))))from rfl]
 rw[aa (xf (by omega) _)]
 simp only
 obtain⟨arr,H3,hao⟩:=xj (bE:=dI (t.ah 0)) (by have:=lP (t.ah 0);omega) (λS hS'=>by
  unfold dI at hS'
  obtain⟨e,he,rfl⟩:=List.mem_map.1 hS'
  exact hS e (List.mem_filter.1 he).1)
 rw[aa H3]
 simp only
 generalize hNf:(((2*t.len:Nat):Int),((t.ah 0).map edI,(((t.fst 0:Nat):Int),((t.lst 0:Nat):Int))))=N
 have hN1:N.1=((2*t.len:Nat):Int):=by rw[<-hNf]
 have hN2:N.2.2.1=((t.fst 0:Nat):Int):=by rw[<-hNf]
 generalize hZ:(List.replicate 256 (0:Int),(([]:List (List Int)),([]:List Int)))=Z
 generalize hnn:2*t.len=n at *
 generalize hll:t.lst 0=last at *
 -- the bytes Nr KW for Fx
 refine bL (λm x=>∃ (c:Nat) (cu:List Int),x=((Z,((N,(mkL n last,(cu,(([]:KM),(([]:List (List Bool)),(arr,(([]:List (List Int)),([]:List Int)))))))),())),((c:Int),()))/\m+c=256/\cu.length<=c/\xx cu) (DQ t) ?_ N0 256 _ (by unfold N0;omega) ⟨0,[],rfl,rfl,by simp,by simp[xx]⟩
 rintro m x ⟨c,cu,rfl,hm,hrl,hro⟩ k hk
 simp only
 rcases Nat.lt_or_ge c 256 with hc|hc
 ·have n0:(0:Int)<=(c:Int):=by omega
  obtain⟨v,hv⟩:∃ v,arr[c]?=some v:=⟨arr[c]'(by rw[hao.1];exact hc),List.getElem?_eq_getElem _⟩
  rw[decide_eq_true (show(c:Int)<256 by omega),cond_true,if_pos n0,Int.toNat_natCast,hv]
  simp only
  refine jq (P:=DQ t) λK hK=>?_
  cases hd:decide (IntKind.wrap .i64 v=((cu.length:Nat):Int))
  ·rw[cond_false,hK]
   simp only
   rw[bf (by omega)]
   exact hk (m-1) _ (by omega) ⟨c+1,cu,rfl,by omega,by omega,hro⟩
  ·rw[cond_true,if_pos (by simp;omega),if_pos (by simp;omega),hK]
   simp only
   rw[bf (by omega),fc hc]
   refine hk (m-1) _ (by omega) ⟨c+1,cu++[(c:Int)],rfl,by omega,by simp;omega,by simp;omega,λv' hv'=>?_⟩
   rcases List.mem_append.1 hv' with h1|h1
   ·exact hro.2 v' h1
   ·simp at h1;exact⟨c,hc,h1⟩
 ·rw[decide_eq_false (show ¬(c:Int)<256 by omega),cond_false]
  rw[if_pos ⟨by omega,by omega⟩,if_pos (by rw[Int.toNat_natCast];omega),if_pos (by omega),Int.toNat_natCast,Int.toNat_natCast,xw (show t.fst 0<n by omega)]
  simp only
  rw[if_pos (by omega)]
  have hbs:=xv (n:=n) (x:=t.fst 0) (by omega)
  rw[hbs]
  obtain⟨g0,hg0,hc0⟩:=mK (n:=n) hn (E:=t.ah 0) (by omega) hin (((t.fst 0:Nat):Int),((last:Nat):Int)) (λq=>decide (q=t.fst 0))
  rw[hNf]at hg0
  rw[aa hg0]
  simp only
  have hs0:Sup n g0:=kW hin (λq hq=>by rw[decide_eq_true_eq]at hq;omega) hc0
  have hb0:BOk N n last cu arr (N,(mkL n last,(cu,(([]:KM),(([]:List (List Bool)),(arr,(([]:List (List Int)),([]:List Int)))))))) []:=
   ⟨rfl,rfl,rfl,λk=>⟨λh=>(by cases h),λ⟨g,h,_⟩=>(by simp at h)⟩,rfl,rfl,rfl,λg h=>(by simp at h)⟩
  obtain⟨r,b1,gs1,e1,ob1,nx1,H4⟩:=mM hn (by omega) hb0 (by simp) hs0
  rw[aa e1]
  simp only
  have H5:ol t g0 gs1:=by
   rcases H4 with⟨_,h|h⟩|⟨rfl,_⟩
   ·have:=hc0.1 (t.fst 0) (by simp)
    rw[h]at this;cases this
   ·simp at h
   ·exact⟨by simp,λg hg=>by simp at hg;subst hg;exact .ini hc0,rfl⟩
  refine bL (λm x=>∃ (i:Nat) (b:BI) (gs:List (Nat->Bool)),x=((Z,(b,())),((i:Int),()))/\BOk N n last cu arr b gs/\ol t g0 gs/\m+i=2000/\i<=gs.length/\b.2.2.2.2.2.2.1.length=i) (DQ t) ?_ N0 2000 _ (by unfold N0;omega) ⟨0,b1,gs1,rfl,ob1,H5,rfl,Nat.zero_le _,by rw[nx1];rfl⟩
  rintro m x ⟨i,b,gs,rfl,ob,og,hm,hi,hnx⟩ k hk
  have hle:=og.le hw
  have hsl:b.2.2.2.2.1.length=gs.length:=by rw[ob.bE,List.length_map]
  simp only[hsl]
  rcases Nat.lt_or_ge i gs.length with hil|hil
  ·rw[decide_eq_true (show(i:Int)<((gs.length:Nat):Int) by omega),cond_true,decide_eq_false (show ¬(2000:Int)<((gs.length:Nat):Int) by omega),cond_false]
   refine bL (λm x=>∃ (j:Nat) (b':BI) (gs':List (Nat->Bool)) (row:List Int),x=((Z,(b',())),(row,((j:Int),())))/\BOk N n last cu arr b' gs'/\ol t g0 gs'/\m+j=cu.length/\i<gs'.length/\b'.2.2.2.2.2.2.1.length=i/\row.length=j) (DQ t) ?_ N0 cu.length _ (by have:=hro.1;unfold N0;omega) ⟨0,b,gs,[],rfl,ob,og,rfl,hil,hnx,rfl⟩
   rintro m' x ⟨j,b',gs',row,rfl,ob',og',hm',vK,H6,eU⟩ k' hk'
   simp only[ob.rp]
   have Ns:=og'.le hw
   rcases Nat.lt_or_ge j cu.length with hj|hj
   ·obtain⟨cc,hcc,hcv⟩:=hro.2 _ (List.getElem_mem hj)
    have hgj:cu[j]?=some (cc:Int):=by rw[List.getElem?_eq_getElem hj,hcv]
    have hgi:gs'[i]?=some gs'[i]:=List.getElem?_eq_getElem vK
    have hmi:gs'[i]∈gs':=List.getElem_mem vK
    have a9:b'.2.2.2.2.1[i]?=some (bsN n gs'[i]):=by rw[ob'.bE,List.getElem?_map,hgi];rfl
    generalize gs'[i]=gi at hmi a9
    have q9:=hro.1
    rw[decide_eq_true (show(j:Int)<((cu.length:Nat):Int) by omega),cond_true,if_pos (by omega),Int.toNat_natCast,hgj]
    simp only
    rw[if_pos (by omega),Int.toNat_natCast,a9]
    simp only
    have h168:=xg (n:=n) hn (E:=t.ah 0) (by omega) hin hS (((t.fst 0:Nat):Int),((last:Nat):Int)) gi hcc
    rw[hNf]at h168
    rw[aa h168]
    simp only
    obtain⟨g2,hg2,hc2⟩:=mK (n:=n) hn (E:=t.ah 0) (by omega) hin (((t.fst 0:Nat):Int),((last:Nat):Int)) (aB (t.ah 0) gi cc)
    rw[hNf]at hg2
    rw[aa hg2]
    simp only
    have hs2:Sup n g2:=kW hin (px hin gi cc) hc2
    obtain⟨r2,b2,gs2,e2,ob2,nx2,zB⟩:=mM hn (by omega) ob' (by omega) hs2
    rw[aa e2]
    simp only
    rw[if_pos (by simp;omega),if_pos (by simp;omega),bf (by omega)]
    refine hk' (m' - 1) _ (by omega) ⟨j+1,b2,gs2,row++[r2],rfl,ob2,?_,by omega,?_,by rw[nx2];exact H6,by simp;omega⟩
    ·rcases zB with⟨rfl,_⟩|⟨rfl,hnm⟩
     ·exact og'
     ·exact og'.push (.step hcc (og'.rch gi hmi) hc2) hnm
    ·rcases zB with⟨rfl,_⟩|⟨rfl,_⟩
     ·exact vK
     ·simp;omega
   ·rw[decide_eq_false (show ¬(j:Int)<((cu.length:Nat):Int) by omega),cond_false]
    rw[if_pos (by simp;omega),if_pos (by simp;omega),bf (by omega)]
    exact hk (m-1) _ (by omega) ⟨i+1,_,gs',rfl,⟨ob'.nf,ob'.mks,ob'.rp,ob'.key,ob'.bE,ob'.cl,ob'.mark,ob'.sup⟩,og',by omega,by omega,by simp;omega⟩
  ·rw[decide_eq_false (show ¬(i:Int)<((gs.length:Nat):Int) by omega),cond_false]
   refine⟨_,rfl,?_⟩
   show b.2.2.2.2.2.2.2[0]?=_
   rw[ob.mark,List.getElem?_map,og.hd]
   have hmn:=pv t hc0
   rw[hll]at hmn
   have hln:last<n:=by omega
   simp only[Option.map_some,dV,hmn]
   simp[hln]
end
noncomputable section
def cls(c:Nat):Int:=if c=32\/c=9\/c=10\/c=13 then 1 else if 48<=c/\c<=57 then 2 else if(97<=c/\c<=122)\/(65<=c/\c<=90)\/c=95 then 3 else if 32<c/\c<127 then 4 else 0
theorem CB:∀ c:Fin 256,zn N0 (((c.val:Nat):Int),())=some ((cls c.val,()),()):=by decide +kernel
theorem Fy:∀ c:Fin 256,p99 N0 (((c.val:Nat):Int),())=some ((cls c.val,()),()):=by decide +kernel
theorem xy{c:Int}(h:0<=c/\c<=255):zn N0 (c,())=some ((cls c.toNat,()),()):=by
 have:=CB ⟨c.toNat,by omega⟩
 simp only[Int.toNat_of_nonneg h.1]at this
 exact this
theorem H7{c:Int}(h:0<=c/\c<=255):p99 N0 (c,())=some ((cls c.toNat,()),()):=by
 have:=Fy ⟨c.toNat,by omega⟩
 simp only[Int.toNat_of_nonneg h.1]at this
 exact this
def zC(k:Nat)(c:Int):Prop:=cls c.toNat=3\/(cls c.toNat=2/\k≠0)
def CC(s:List Int):Prop:=1<=s.length/\s.length<=40/\∀ k c,s[k]?=some c->zC k c
def dK(s:List Int):Bool:=@decide (CC s) (Classical.propDecidable _)
theorem xz{s:List Int}(h:CC s):dK s=true:=@decide_eq_true _ (Classical.propDecidable _) h
theorem iy{s:List Int}(h:¬CC s):dK s=false:=@decide_eq_false _ (Classical.propDecidable _) h
theorem vL{s:List Int}(hb:Bytes s)(hs:s.length<=maxLen):p67 N0 (s,())=some ((dK s,()),()):=by
 unfold p67
 simp only
 refine aJ (λm x r=>∃ j:Nat,x=((),((j:Int),()))/\m+j=s.length/\(∀ k c,k<j->s[k]?=some c->zC k c)/\r=some ((dK s,()),())) ?_ N0 s.length _ _ (by have:=gO hs;omega) ⟨0,rfl,rfl,λk c h=>by omega,rfl⟩
 rintro m x r ⟨j,rfl,hm,fv,rfl⟩ k hk
 simp only
 rcases Nat.lt_or_ge j s.length with hj|hj
 ·have n0:(0:Int)<=(j:Int):=by omega
  have hg:s[j]?=some s[j]:=List.getElem?_eq_getElem hj
  generalize s[j]=c at hg
  rw[decide_eq_true (show(j:Int)<((s.length:Nat):Int) by omega),cond_true,if_pos n0,Int.toNat_natCast,hg]
  simp only
  rw[aa (H7 (hb.get hg))]
  simp only
  by_cases hok:zC j c
  ·refine av ((),(false,())) (λK=>?_) ?_
   ·rcases hok with h|⟨h,h0⟩
    ·rw[h];rfl
    ·rw[h,show(!decide ((2:Int)=3))=true from rfl,cond_true,show(!decide ((2:Int)=2))=false from rfl,cond_false,decide_eq_false (show ¬(j:Int)=0 by omega)]
   ·simp only
    rw[cond_false,aE hj hs]
    refine hk (m-1) _ _ (by omega) ⟨j+1,rfl,by omega,λk c' hk' hc'=>?_,rfl⟩
    by_cases e:k=j
    ·subst e
     rw[hg]at hc'
     injection hc' with hc'
     subst hc'
     exact hok
    ·exact fv k c' (by omega) hc'
  ·refine av ((),(true,())) (λK=>?_) ?_
   ·unfold zC at hok
    have h3:¬cls c.toNat=3:=λh=>hok (.inl h)
    rw[decide_eq_false h3,Bool.not_false,cond_true]
    by_cases h2:cls c.toNat=2
    ·have h0:j=0:=by
      rcases Nat.eq_zero_or_pos j with h|h
      ·exact h
      ·exact absurd (.inr ⟨h2,by omega⟩) hok
     rw[decide_eq_true h2,Bool.not_true,cond_false,decide_eq_true (show(j:Int)=0 by omega)]
    ·rw[decide_eq_false h2,Bool.not_false,cond_true]
   ·simp only
    rw[cond_true,iy λh=>hok (h.2.2 j c hg)]
 ·rw[decide_eq_false (show ¬(j:Int)<((s.length:Nat):Int) by omega),cond_false]
  refine av ((),(dK s,())) (λK=>?_) rfl
  have KX:∀ k c,s[k]?=some c->zC k c:=λk c hc=>fv k c (Nat.lt_of_lt_of_le (List.getElem?_eq_some_iff.1 hc).1 hj) hc
  by_cases h1:1<=s.length
  ·rw[decide_eq_true (show(1:Int)<=((s.length:Nat):Int) by omega),cond_true]
   by_cases h2:s.length<=40
   ·rw[decide_eq_true (show((s.length:Nat):Int)<=40 by omega),xz ⟨h1,h2,KX⟩]
   ·rw[decide_eq_false (show ¬((s.length:Nat):Int)<=40 by omega),iy λh=>h2 h.2.1]
  ·rw[decide_eq_false (show ¬(1:Int)<=((s.length:Nat):Int) by omega),cond_false,iy λh=>h1 h.1]
end
noncomputable section
theorem om{s:List Int}(hb:Bytes s)(hs:s.length<=maxLen):p89 N0 (s,())=some ((dK s,()),()):=by
 unfold p89
 simp only
 by_cases h40:40<s.length
 ·refine av ((),(true,())) (λK=>?_) ?_
  ·rw[decide_eq_true (show(40:Int)<((s.length:Nat):Int) by omega),cond_true]
  ·simp only
   rw[cond_true,iy λh=>by have:=h.2.1;omega]
 cases s with
 |nil=>
  refine av ((),(true,())) (λK=>?_) ?_
  ·rfl
  ·simp only
   rw[cond_true,iy λh=>by have:=h.1;simp at this]
 |cons c r=>
  have hc:=hb c (by simp)
  have n0:(0:Int)<=0:=by omega
  have xY:∀ K:Unit×(Bool×Unit)->Option ((Bool×Unit)×Unit),(bif decide ((40:Int)<(((c::r:List Int).length:Nat):Int))then K ((),(true,()))else(bif decide ((c::r:List Int)=[])then K ((),(true,()))else(if(0:Int)<=0 then(match(c::r:List Int)[((0:Int)).toNat]? with|some v11=>(af (zn N0 (v11,())) λv12=>K ((),((!decide (v12.1.1=3)),())))|none=>none)else none)))=K ((),((!decide (cls c.toNat=3)),())):=by
   intro K
   rw[decide_eq_false (show ¬(40:Int)<(((c::r:List Int).length:Nat):Int) by omega),cond_false,show decide ((c::r:List Int)=[])=false from rfl,cond_false,if_pos n0,tL]
   simp only
   rw[aa (xy hc)]
  refine av ((),((!decide (cls c.toNat=3)),())) (λK=>xY K) ?_
  simp only
  by_cases h3:cls c.toNat=3
  ·rw[decide_eq_true h3,Bool.not_true,cond_false]
   refine aJ (λm x q=>∃ j:Nat,x=((),((j:Int),()))/\m+j=(c::r).length/\(∀ k d,k<j->(c::r)[k]?=some d->zC k d)/\q=some ((dK (c::r),()),())) ?_ N0 (c::r).length _ _ (by have:=gO hs;omega) ⟨0,rfl,rfl,λk d h=>by omega,rfl⟩
   rintro m x q ⟨j,rfl,hm,fv,rfl⟩ k hk
   simp only
   rcases Nat.lt_or_ge j (c::r).length with hj|hj
   ·have n1:(0:Int)<=(j:Int):=by omega
    have hg:(c::r)[j]?=some (c::r)[j]:=List.getElem?_eq_getElem hj
    generalize (c::r)[j]=d at hg
    rw[decide_eq_true (show(j:Int)<(((c::r:List Int).length:Nat):Int) by omega),cond_true,if_pos n1,Int.toNat_natCast,hg]
    simp only
    rw[aa (xy (hb.get hg))]
    simp only
    by_cases hok:cls d.toNat=2\/cls d.toNat=3
    ·refine av ((),(false,())) (λK=>?_) ?_
     ·rcases hok with h|h <;> rw[h] <;> rfl
     ·simp only
      rw[cond_false,aE hj hs]
      refine hk (m-1) _ _ (by omega) ⟨j+1,rfl,by omega,λk d' hk' hd'=>?_,rfl⟩
      by_cases e:k=j
      ·subst e
       rw[hg]at hd'
       injection hd' with hd'
       subst hd'
       rcases hok with h|h
       ·right
        refine⟨h,λhk0=>?_⟩
        subst hk0
        have:c=d:=by simpa using hg
        rw[<-this,h3]at h
        cases h
       ·exact .inl h
      ·exact fv k d' (by omega) hd'
    ·have h2:¬cls d.toNat=2:=λh=>hok (.inl h)
     have h3':¬cls d.toNat=3:=λh=>hok (.inr h)
     refine av ((),(true,())) (λK=>?_) ?_
     ·rw[decide_eq_false h2,Bool.not_false,cond_true,decide_eq_false h3',Bool.not_false]
     ·simp only
      rw[cond_true,iy λh=>by
       rcases h.2.2 j d hg with h|h
       ·exact h3' h
       ·exact h2 h.1]
   ·rw[decide_eq_false (show ¬(j:Int)<(((c::r:List Int).length:Nat):Int) by omega),cond_false]
    rw[xz ⟨by simp,by omega,λk d hd=>fv k d (Nat.lt_of_lt_of_le (List.getElem?_eq_some_iff.1 hd).1 hj) hd⟩]
  ·rw[decide_eq_false h3,Bool.not_false,cond_true,iy λh=>by
    rcases h.2.2 0 c rfl with h|h
    ·exact h3 h
    ·exact h.2 rfl]
end
noncomputable section
abbrev RuI:=List Int×(Int×List Int)
def vM(r:RuI):Prop:=Bytes r.1/\r.1.length<=maxLen/\Bytes r.2.2/\r.2.2.length<=maxLen
def tX(s:List Int):Int:=match cG s with
 |.error e=>e
 |.ok t=>if t.null=true then 14 else 0
def tY(rs:List RuI)(i:Nat)(nm:List Int):Prop:=∃ j r,j<i/\rs[j]?=some r/\r.1=nm
noncomputable instance (rs:List RuI) (i:Nat) (nm:List Int):Decidable (tY rs i nm):=Classical.propDecidable _
def jr(rs:List RuI)(i:Nat)(r:RuI):Int:=
 if dK r.1=false then 8 else if tY rs i r.1 then 9 else if r.2.1<0\/2<r.2.1 then 1 else tX r.2.2
theorem H8{rs:List RuI}(hs:rs.length<=maxLen){i:Nat}{r:RuI}(hr:rs[i]?=some r)(hok:vM r):p66 N0 (rs,((i:Int),()))=some ((jr rs i r,()),()):=by
 obtain⟨h1,h2,h3,h4⟩:=hok
 have hi:i<rs.length:=(List.getElem?_eq_some_iff.1 hr).1
 have n0:(0:Int)<=(i:Int):=by omega
 unfold p66
 simp only
 rw[if_pos n0,Int.toNat_natCast,hr]
 simp only
 rw[aa (vL h1 h2)]
 simp only
 unfold jr
 cases hn:dK r.1
 ·rw[Bool.not_false,cond_true,if_pos rfl]
 rw[Bool.not_true,cond_false,if_neg (by simp)]
 refine aJ (λm x q=>∃ j:Nat,x=((),((j:Int),()))/\m+j=i/\(∀ k r',k<j->rs[k]?=some r'->¬r'.1=r.1)/\q=some ((if tY rs i r.1 then 9 else if r.2.1<0\/2<r.2.1 then 1 else tX r.2.2,()),())) ?_ N0 i _ _ (by unfold N0;unfold maxLen at hs;omega) ⟨0,rfl,rfl,λk r' h=>by omega,rfl⟩
 rintro m x q ⟨j,rfl,hm,fv,rfl⟩ k hk
 simp only
 rcases Nat.lt_or_ge j i with hj|hj
 ·have n1:(0:Int)<=(j:Int):=by omega
  have hg:rs[j]?=some (rs[j]'(by omega)):=List.getElem?_eq_getElem _
  generalize rs[j]'(by omega)=r' at hg
  rw[decide_eq_true (show(j:Int)<(i:Int) by omega),cond_true,if_pos n1,Int.toNat_natCast,hg]
  simp only
  by_cases e:r'.1=r.1
  ·rw[decide_eq_true e,cond_true,if_pos ⟨j,r',hj,hg,e⟩]
  ·rw[decide_eq_false e,cond_false,aE (show j<rs.length by omega) hs]
   refine hk (m-1) _ _ (by omega) ⟨j+1,rfl,by omega,λk' r2 hk' hr2=>?_,rfl⟩
   by_cases e2:k'=j
   ·subst e2
    rw[hg]at hr2
    injection hr2 with hr2
    subst hr2
    exact e
   ·exact fv k' r2 (by omega) hr2
 ·rw[decide_eq_false (show ¬(j:Int)<(i:Int) by omega),cond_false]
  have hnd:¬tY rs i r.1:=by
   rintro⟨k',r2,hk',hr2,e⟩
   exact fv k' r2 (by omega) hr2 e
  rw[if_neg hnd]
  refine av ((),(decide (r.2.1<0\/2<r.2.1),())) (λK=>?_) ?_
  ·by_cases q1:r.2.1<0
   ·rw[decide_eq_true q1,cond_true,decide_eq_true (.inl q1)]
   ·rw[decide_eq_false q1,cond_false]
    have:decide (r.2.1<0\/2<r.2.1)=decide (2<r.2.1):=by rw[decide_eq_decide];exact⟨λh=>h.resolve_left q1,.inr⟩
    rw[this]
  ·simp only
   by_cases hk2:r.2.1<0\/2<r.2.1
   ·rw[if_pos hk2,decide_eq_true hk2,cond_true]
   ·rw[if_neg hk2,decide_eq_false hk2,cond_false,aa (HV h3)]
    unfold tX
    cases hp:cG r.2.2 with
    |error e=>
     rcases ix hp with rfl|rfl <;> rfl
    |ok t=>
     obtain⟨q1,q2,q3⟩:=jN h3 hp
     simp only[B7]
     rw[decide_true,Bool.not_true,cond_false,aa (HW q1 (by omega))]
     simp only
     cases t.null <;> rfl
end
noncomputable section
def chk(rs:List RuI):Nat->List RuI->Nat×Int
 |i,[]=>(i,0)
 |i,r::rest=>if jr rs i r=0 then chk rs (i+1) rest else(i,jr rs i r)
def dz(rs:List RuI):Nat×Int:=if 60<rs.length then(rs.length,6)else chk rs 0 rs
theorem H9{rs:List RuI}(hs:rs.length<=maxLen)(hok:∀ r∈rs,vM r):p35 N0 (rs,())=some ((((dz rs).1:Int),((dz rs).2,())),()):=by
 unfold p35 dz
 simp only
 by_cases h60:60<rs.length
 ·rw[if_pos h60,decide_eq_true (show(60:Int)<((rs.length:Nat):Int) by omega),cond_true]
 rw[if_neg h60,decide_eq_false (show ¬(60:Int)<((rs.length:Nat):Int) by omega),cond_false]
 refine aJ (λm x q=>∃ j:Nat,x=((),((j:Int),()))/\m+j=rs.length/\chk rs j (rs.drop j)=chk rs 0 rs/\q=some ((((chk rs 0 rs).1:Int),((chk rs 0 rs).2,())),())) ?_ N0 rs.length _ _ (by have:=gO hs;omega) ⟨0,rfl,rfl,by rw[List.drop_zero],rfl⟩
 rintro m x q ⟨j,rfl,hm,hch,rfl⟩ k hk
 simp only
 rcases Nat.lt_or_ge j rs.length with hj|hj
 ·have hg:rs[j]?=some rs[j]:=List.getElem?_eq_getElem hj
  have fi:=hok _ (List.getElem_mem hj)
  rw[List.drop_eq_getElem_cons hj]at hch
  generalize rs[j]=r at hg fi hch
  rw[decide_eq_true (show(j:Int)<((rs.length:Nat):Int) by omega),cond_true,aa (H8 hs hg fi)]
  simp only
  simp only[chk]at hch
  by_cases he:jr rs j r=0
  ·rw[if_pos he]at hch
   rw[decide_eq_true he,Bool.not_true,cond_false,aE hj hs]
   exact hk (m-1) _ _ (by omega) ⟨j+1,rfl,by omega,hch,rfl⟩
  ·rw[if_neg he]at hch
   rw[decide_eq_false he,Bool.not_false,cond_true,<-hch]
 ·have:j=rs.length:=by omega
  subst this
  rw[decide_eq_false (show ¬((rs.length:Nat):Int)<((rs.length:Nat):Int) by omega),cond_false]
  rw[List.drop_length]at hch
  rw[<-hch]
  rfl
end
noncomputable section
theorem vN{s:List Int}(hb:Bytes s)(h12:s.length<=12){t:Rx}(h:cG s=.ok t):∃ d,qC N0 (s,())=some ((d,((0:Int),())),())/\d.2.2[0]?=some (if t.null=true then 0 else -1):=by
 obtain⟨h1,h2,h3⟩:=jN hb h
 have hw:=zy hb h
 obtain⟨d,hd,hm⟩:=Fw h1 h2 (by omega)
 exact⟨d,qW hb (by unfold maxLen;omega) h (qX h2 hd),hm⟩
theorem CD(k k':List Int)(v:Int):∀ x:KM,bx eqK k (dm eqK k' v x)=if k=k' then v else bx eqK k x:=by
 intro x
 induction x with
 |nil=>
  simp only[dm,bx,eqK]
  by_cases e:k=k' <;> simp[e]
 |cons p r ih=>
  simp only[dm]
  by_cases e:k'=p.1
  ·have:eqK k' p.1=true:=decide_eq_true e
   rw[this,cond_true]
   simp only[bx]
   rw[<-e]
   by_cases e2:k=k'
   ·rw[show eqK k k'=true from decide_eq_true e2,if_pos e2];rfl
   ·rw[show eqK k k'=false from decide_eq_false e2,if_neg e2];rfl
  ·have:eqK k' p.1=false:=decide_eq_false e
   rw[this,cond_false]
   simp only[bx]
   by_cases e2:k=p.1
   ·rw[show eqK k p.1=true from decide_eq_true e2,cond_true,cond_true]
    rw[if_neg]
    rintro rfl
    exact e e2
   ·rw[show eqK k p.1=false from decide_eq_false e2,cond_false,cond_false,ih]
def kf(rs:List RuI)(i:Nat)(m:KM):Prop:=∀ k,(0<bx eqK k m↔tY rs i k)/\0<=bx eqK k m/\bx eqK k m<=(i:Int)
theorem kf.next{rs:List RuI}{i:Nat}{m:KM}(h:kf rs i m){r:RuI}(hr:rs[i]?=some r):kf rs (i+1) (dm eqK r.1 (bx eqK r.1 m+1) m):=by
 intro k
 rw[CD]
 obtain⟨h1,h2,h3⟩:=h k
 by_cases e:k=r.1
 ·subst e
  rw[if_pos rfl]
  refine⟨⟨λ_=>⟨i,r,by omega,hr,rfl⟩,λ_=>by omega⟩,by omega,by omega⟩
 ·rw[if_neg e,h1]
  refine⟨⟨λ⟨j,r',a1,a2,a3⟩=>⟨j,r',by omega,a2,a3⟩,λ⟨j,r',a1,a2,a3⟩=>?_⟩,by omega,by omega⟩
  by_cases e2:j=i
  ·subst e2
   rw[hr]at a2
   injection a2 with a2
   subst a2
   exact absurd a3.symm e
  ·exact⟨j,r',by omega,a2,a3⟩
theorem Ia{rs:List RuI}{i:Nat}{r:RuI}(hr:rs[i]?=some r)(hok:vM r)(h12:r.2.2.length<=12){m:KM}(hm:kf rs i m):p88 N0 (r,(m,()))=some ((jr rs i r,()),()):=by
 obtain⟨h1,h2,h3,h4⟩:=hok
 unfold p88
 simp only
 rw[aa (om h1 h2)]
 simp only
 unfold jr
 cases hn:dK r.1
 ·rw[Bool.not_false,cond_true,if_pos rfl]
 rw[Bool.not_true,cond_false,if_neg (by simp)]
 show(bif decide ((0:Int)<bx eqK r.1 m)then _ else _)=_
 by_cases hd:tY rs i r.1
 ·rw[decide_eq_true ((hm r.1).1.2 hd),cond_true,if_pos hd]
 rw[decide_eq_false (λh=>hd ((hm r.1).1.1 h)),cond_false,if_neg hd]
 refine av ((),(decide (r.2.1<0\/2<r.2.1),())) (λK=>?_) ?_
 ·by_cases q1:r.2.1<0
  ·rw[decide_eq_true q1,cond_true,decide_eq_true (.inl q1)]
  ·rw[decide_eq_false q1,cond_false]
   have:decide (r.2.1<0\/2<r.2.1)=decide (2<r.2.1):=by rw[decide_eq_decide];exact⟨λh=>h.resolve_left q1,.inr⟩
   rw[this]
 ·simp only
  by_cases hk2:r.2.1<0\/2<r.2.1
  ·rw[if_pos hk2,decide_eq_true hk2,cond_true]
  ·rw[if_neg hk2,decide_eq_false hk2,cond_false]
   unfold tX
   cases hp:cG r.2.2 with
   |error e=>
    rw[aa (tW h3 h4 hp)]
    rcases ix hp with rfl|rfl <;> rfl
   |ok t=>
    obtain⟨d,hd2,hd3⟩:=vN h3 h12 hp
    rw[aa hd2]
    simp only
    rw[decide_true,Bool.not_true,cond_false,aa (tV hd3)]
    simp only
    cases t.null <;> rfl
theorem Ib{rs:List RuI}(hs:rs.length<=maxLen)(hok:∀ r∈rs,vM r)(h12:∀ r∈rs,r.2.2.length<=12):p58 N0 (rs,())=some ((((dz rs).1:Int),((dz rs).2,())),()):=by
 unfold p58 dz
 simp only
 by_cases h60:60<rs.length
 ·rw[if_pos h60,decide_eq_true (show(60:Int)<((rs.length:Nat):Int) by omega),cond_true]
 rw[if_neg h60,decide_eq_false (show ¬(60:Int)<((rs.length:Nat):Int) by omega),cond_false]
 refine aJ (λm x q=>∃ (j:Nat) (mp:KM),x=((mp,()),((j:Int),()))/\m+j=rs.length/\kf rs j mp/\chk rs j (rs.drop j)=chk rs 0 rs/\q=some ((((chk rs 0 rs).1:Int),((chk rs 0 rs).2,())),())) ?_ N0 rs.length _ _ (by have:=gO hs;omega) ⟨0,[],rfl,rfl,λk=>⟨⟨λh=>absurd h (by simp[bx]),λ⟨j,_,h,_⟩=>by omega⟩,by simp[bx],by simp[bx]⟩,by rw[List.drop_zero],rfl⟩
 rintro m x q ⟨j,mp,rfl,hm,hsn,hch,rfl⟩ k hk
 simp only
 rcases Nat.lt_or_ge j rs.length with hj|hj
 ·have hg:rs[j]?=some rs[j]:=List.getElem?_eq_getElem hj
  have fi:=hok _ (List.getElem_mem hj)
  have FZ:=h12 _ (List.getElem_mem hj)
  rw[List.drop_eq_getElem_cons hj]at hch
  generalize rs[j]=r at hg fi FZ hch
  have n0:(0:Int)<=(j:Int):=by omega
  rw[decide_eq_true (show(j:Int)<((rs.length:Nat):Int) by omega),cond_true,if_pos n0,Int.toNat_natCast,hg]
  simp only
  rw[aa (Ia hg fi FZ hsn)]
  simp only
  simp only[chk]at hch
  by_cases he:jr rs j r=0
  ·rw[if_pos he]at hch
   rw[decide_eq_true he,Bool.not_true,cond_false,aE hj hs]
   show k (((dm eqK r.1 (IntKind.wrap .i64 (bx eqK r.1 mp+1)) mp),()),_)=_
   have e1:IntKind.wrap .i64 (bx eqK r.1 mp+1)=bx eqK r.1 mp+1:=by
    obtain⟨_,q1,q2⟩:=hsn r.1
    obtain⟨u,hu⟩:∃ u:Nat,bx eqK r.1 mp=(u:Int):=⟨_,(Int.toNat_of_nonneg q1).symm⟩
    rw[hu]at q2 |-
    rw[bf (by omega)]
    rfl
   rw[e1]
   exact hk (m-1) _ _ (by omega) ⟨j+1,_,rfl,by omega,hsn.next hg,hch,rfl⟩
  ·rw[if_neg he]at hch
   rw[decide_eq_false he,Bool.not_false,cond_true,<-hch]
 ·have:j=rs.length:=by omega
  subst this
  rw[decide_eq_false (show ¬((rs.length:Nat):Int)<((rs.length:Nat):Int) by omega),cond_false]
  rw[List.drop_length]at hch
  rw[<-hch]
  rfl
end
noncomputable section
abbrev Fz:=Bool×Int
abbrev PrI:=Int×(List Int×(List Fz×(Bool×(Int×List Int))))
abbrev LvI:=Int×List Int
abbrev GrI:=List RuI×(List (List Int)×(List PrI×(List LvI×Int)))
structure lS(g:GrI):Prop where
 r0:g.1.length<=100000
 r1:∀ r∈g.1,vM r
 s0:g.2.1.length<=100000
 s1:∀ s∈g.2.1,Bytes s/\s.length<=maxLen
 p0:g.2.2.1.length<=100000
 p1:∀ p∈g.2.2.1,Bytes p.2.1/\p.2.1.length<=maxLen
 p2:∀ p∈g.2.2.1,p.2.2.1.length<=100000
 p3:∀ p∈g.2.2.1,p.2.2.2.2.2.length<=100000
 l0:g.2.2.2.1.length<=100000
 l1:∀ l∈g.2.2.2.1,l.2.length<=100000
theorem le_max{n:Nat}(h:n<=100000):n<=maxLen:=by unfold maxLen;omega
theorem eB{n:Nat}(h:n<=100000):n<N0:=by unfold N0;omega
theorem xA{α A R:Type}{body:A->(A->Option R)->Option R}(l:List α)(f:Nat->A)(bad:α->Bool)(found:Nat->Option R)(after:Option R)
 (step:∀ j,(h:j<l.length)->∀ k,body (f j) k=if bad l[j]=true then found j else k (f (j+1))) (fin:∀ k,body (f l.length) k=after) (n:Nat) (hn:l.length<n):
 aq body n (f 0)=match l.findIdx? bad with|some j=>found j|none=>after:=by
 have:=jI (body:=body) f (λj=>match(l.drop j).findIdx? bad with|some i=>found (j+i)|none=>after) l.length (λj hj k hk=>by
  rcases Nat.lt_or_ge j l.length with hi|hi
  ·rw[step j hi,List.drop_eq_getElem_cons hi,List.findIdx?_cons]
   cases hb:bad l[j]
   ·simp only[Bool.false_eq_true,if_false]
    rw[hk hi]
    cases(l.drop (j+1)).findIdx? bad with
    |none=>rfl
    |some i=>simp only[Option.map_some];congr 1;omega
   ·simp
  ·have e:j=l.length:=by omega
   rw[e,fin];simp) n 0 (Nat.zero_le _) (by omega)
 rw[this,List.drop_zero]
 cases l.findIdx? bad with
 |none=>rfl
 |some i=>simp
def bh{α:Type}(E:Nat->α->Int):Nat->List α->Option (Int×Nat)
 |_,[]=>none
 |i,a::r=>if E i a=0 then bh E (i+1) r else some (E i a,i)
theorem kg{α A R:Type}{body:A->(A->Option R)->Option R}(l:List α)(f:Nat->A)(E:Nat->α->Int)(found:Int->Nat->Option R)(after:Option R)
 (step:∀ j,(h:j<l.length)->∀ k,body (f j) k=if E j l[j]=0 then k (f (j+1))else found (E j l[j]) j) (fin:∀ k,body (f l.length) k=after) (n:Nat) (hn:l.length<n):
 aq body n (f 0)=match bh E 0 l with|some p=>found p.1 p.2|none=>after:=by
 have:=jI (body:=body) f (λj=>match bh E j (l.drop j)with|some p=>found p.1 p.2|none=>after) l.length (λj hj k hk=>by
  rcases Nat.lt_or_ge j l.length with hi|hi
  ·rw[step j hi,List.drop_eq_getElem_cons hi]
   simp only[bh]
   by_cases hb:E j l[j]=0
   ·rw[if_pos hb,if_pos hb,hk hi]
   ·rw[if_neg hb,if_neg hb]
  ·have e:j=l.length:=by omega
   rw[e,fin];simp[bh]) n 0 (Nat.zero_le _) (by omega)
 rw[this,List.drop_zero]
theorem py{α:Type}(l:List α)(i:Nat)(h:i<=l.length):br l 0 (i:Int)=l.take i:=by
 unfold br
 simp
def dL(g:GrI)(s:Fz):Bool:=
 if s.1=true then decide (0<=s.2)&&decide (s.2<(g.2.1.length:Int))else decide (0<=s.2)&&(match g.1[s.2.toNat]? with|some r=>decide (r.2.1=0)|none=>false)
theorem vO(g:GrI)(s:Fz):p92 N0 (g,(s,()))=some ((dL g s,()),()):=by
 obtain⟨b,n⟩:=s
 unfold p92 dL
 simp only
 cases b
 ·simp only[Bool.false_eq_true,if_false,cond_false]
  refine av ((),(decide (0<=n)&&(match g.1[n.toNat]? with|some r=>decide (r.2.1=0)|none=>false),())) (λK=>?_) rfl
  by_cases h0:0<=n
  ·rw[decide_eq_true h0,cond_true,Bool.true_and]
   by_cases h1:n<((g.1.length:Nat):Int)
   ·rw[decide_eq_true h1,cond_true,if_pos h0,List.getElem?_eq_getElem (show n.toNat<g.1.length by omega)]
   ·rw[decide_eq_false h1,cond_false,List.getElem?_eq_none (show g.1.length<=n.toNat by omega)]
  ·rw[decide_eq_false h0,cond_false,Bool.false_and]
 ·simp only[if_true,cond_true]
  refine av ((),(decide (0<=n)&&decide (n<(g.2.1.length:Int)),())) (λK=>?_) rfl
  by_cases h0:0<=n
  ·rw[decide_eq_true h0,cond_true,Bool.true_and]
  ·rw[decide_eq_false h0,cond_false,Bool.false_and]
theorem vP(g:GrI)(s:Fz):p68 N0 (g,(s,()))=some ((dL g s,()),()):=by
 obtain⟨b,n⟩:=s
 unfold p68 dL
 simp only
 cases b
 ·simp only[Bool.false_eq_true,if_false,cond_false]
  refine av ((),(decide (0<=n)&&(match g.1[n.toNat]? with|some r=>decide (r.2.1=0)|none=>false),())) (λK=>?_) rfl
  by_cases h0:0<=n
  ·rw[decide_eq_true h0,cond_true,Bool.true_and]
   by_cases h1:n<((g.1.length:Nat):Int)
   ·rw[decide_eq_true h1,cond_true,if_pos h0,List.getElem?_eq_getElem (show n.toNat<g.1.length by omega)]
   ·rw[decide_eq_false h1,cond_false,List.getElem?_eq_none (show g.1.length<=n.toNat by omega)]
  ·rw[decide_eq_false h0,cond_false,Bool.false_and]
 ·simp only[if_true,cond_true]
  refine av ((),(decide (0<=n)&&decide (n<(g.2.1.length:Int)),())) (λK=>?_) rfl
  by_cases h0:0<=n
  ·rw[decide_eq_true h0,cond_true,Bool.true_and]
  ·rw[decide_eq_false h0,cond_false,Bool.false_and]
def jt(p:PrI):Bool:=match p.2.2.1 with
 |[a,b,c]=>!a.1&&((b.1&&decide (b.2=p.1))&&!c.1)
 |_=>false
theorem F3{p:PrI}(h:¬p.2.2.1.length=3):jt p=false:=by
 unfold jt
 split
 ·rename_i e;rw[e]at h;simp at h
 ·rfl
theorem Ic(p:PrI):p93 N0 (p,())=some ((jt p,()),()):=by
 obtain⟨s,c,body,par,pr,hi⟩:=p
 unfold p93
 simp only
 refine av ((),(jt (s,(c,(body,(par,(pr,hi))))),())) (λK=>?_) rfl
 by_cases h3:body.length=3
 ·rw[decide_eq_true (show((body.length:Nat):Int)=3 by omega),cond_true]
  match body,h3 with
  |[(a1,a2),(b1,b2),(c1,c2)],_=>
   show(if(0:Int)<=0 then _ else _)=_
   rw[if_pos (by omega)]
   show(bif !a1 then _ else _)=_
   cases a1
   ·rw[Bool.not_false,cond_true]
    rw[if_pos (by omega)]
    show(bif(bif(b1 == true)then decide (b2=s)else false)then _ else _)=_
    cases b1
    ·rfl
    ·show(bif decide (b2=s)then _ else _)=_
     by_cases e:b2=s
     ·rw[decide_eq_true e,cond_true,if_pos (by omega)]
      show K ((),(!c1,()))=_
      simp[jt,e]
     ·rw[decide_eq_false e,cond_false]
      simp[jt,e]
   ·rfl
 ·rw[decide_eq_false (show ¬((body.length:Nat):Int)=3 by omega),cond_false,F3 h3]
theorem Ie(p:PrI):p69 N0 (p,())=some ((jt p,()),()):=by
 obtain⟨s,c,body,par,pr,hi⟩:=p
 unfold p69
 simp only
 refine av ((),(jt (s,(c,(body,(par,(pr,hi))))),())) (λK=>?_) rfl
 by_cases h3:body.length=3
 ·rw[decide_eq_true (show((body.length:Nat):Int)=3 by omega),cond_true]
  match body,h3 with
  |[(a1,a2),(b1,b2),(c1,c2)],_=>
   show(if(0:Int)<=0 then _ else _)=_
   rw[if_pos (by omega)]
   show(bif !a1 then _ else _)=_
   cases a1
   ·rw[Bool.not_false,cond_true]
    rw[if_pos (by omega)]
    show(bif b1 then _ else _)=_
    cases b1
    ·rfl
    ·rw[cond_true,if_pos (by omega)]
     show(bif decide (b2=s)then _ else _)=_
     by_cases e:b2=s
     ·rw[decide_eq_true e,cond_true,if_pos (by omega)]
      show K ((),(!c1,()))=_
      simp[jt,e]
     ·rw[decide_eq_false e,cond_false]
      simp[jt,e]
   ·rfl
 ·rw[decide_eq_false (show ¬((body.length:Nat):Int)=3 by omega),cond_false,F3 h3]
def ft(g:GrI)(i:Nat)(s:List Int):Int:=
 if dK s=false then 8 else if(g.2.1.take i).any (λx=>decide (x=s))||g.1.any (λr=>decide (r.1=s))then 9 else 0
theorem xB{g:GrI}{i:Nat}{s:List Int}(h:dK s=false):ft g i s=8:=by unfold ft;rw[if_pos h]
theorem qZ{g:GrI}{i:Nat}{s:List Int}(h:dK s=true)(h2:((g.2.1.take i).any (λx=>decide (x=s))||g.1.any (λr=>decide (r.1=s)))=true):ft g i s=9:=by unfold ft;rw[if_neg (by rw[h];simp),if_pos h2]
theorem xC{g:GrI}{i:Nat}{s:List Int}(h:dK s=true)(h2:((g.2.1.take i).any (λx=>decide (x=s))||g.1.any (λr=>decide (r.1=s)))=false):ft g i s=0:=by unfold ft;rw[if_neg (by rw[h];simp),if_neg (by rw[h2];simp)]
theorem FA{l:List (List Int)}(hl:l.length<=100000)(s:List Int):Ex N0 (l,(s,()))=some ((match l.findIdx? (λx=>decide (x=s))with|some j=>(j:Int)|none=>-1,()),()):=by
 unfold Ex
 simp only
 refine(xA l (λj=>((),((j:Int),()))) (λx=>decide (x=s)) (λj=>some (((j:Int),()),())) (some ((-1,()),())) (λj h k=>?_) (λk=>?_) N0 (eB hl)).trans ?_
 ·simp only
  rw[decide_eq_true (show(j:Int)<((l.length:Nat):Int) by omega),cond_true,if_pos (by omega),Int.toNat_natCast,List.getElem?_eq_getElem h]
  simp only
  by_cases e:l[j]=s
  ·rw[decide_eq_true e.symm,cond_true,decide_eq_true e,if_pos rfl]
  ·rw[decide_eq_false (λh=>e h.symm),cond_false,decide_eq_false e,if_neg (by simp),aE h (le_max hl)]
 ·simp only
  rw[decide_eq_false (by omega),cond_false]
 ·cases l.findIdx? (λx=>decide (x=s)) <;> rfl
theorem CE{α:Type}(l:List α)(f:α->Bool):decide ((0:Int)<=match l.findIdx? f with|some j=>(j:Int)|none=>-1)=l.any f:=by
 cases h:l.findIdx? f with
 |none=>
  rw[List.findIdx?_eq_none_iff]at h
  have:l.any f=false:=by
   rw[List.any_eq_false]
   intro x hx
   simpa using h x hx
  rw[this]
  rfl
 |some j=>
  obtain⟨h1,h2,_⟩:=List.findIdx?_eq_some_iff_getElem.1 h
  have:l.any f=true:=List.any_eq_true.2 ⟨_,List.getElem_mem h1,h2⟩
  rw[this]
  exact decide_eq_true (by simp)
theorem Ig{l:List (List Int)}(hl:l.length<=100000)(s:List Int):p90 N0 (l,(s,()))=some ((l.any (λx=>decide (x=s)),()),()):=by
 unfold p90
 simp only
 rw[aa (FA hl s)]
 simp only
 rw[CE]
theorem Ih{l:List RuI}(hl:l.length<=100000)(s:List Int):p91 N0 (l,(s,()))=some ((match l.findIdx? (λr=>decide (r.1=s))with|some j=>(j:Int)|none=>-1,()),()):=by
 unfold p91
 simp only
 refine(xA l (λj=>((),((j:Int),()))) (λr=>decide (r.1=s)) (λj=>some (((j:Int),()),())) (some ((-1,()),())) (λj h k=>?_) (λk=>?_) N0 (eB hl)).trans ?_
 ·simp only
  rw[decide_eq_true (show(j:Int)<((l.length:Nat):Int) by omega),cond_true,if_pos (by omega),Int.toNat_natCast,List.getElem?_eq_getElem h]
  simp only
  by_cases e:l[j].1=s
  ·rw[decide_eq_true e,cond_true,if_pos rfl]
  ·rw[decide_eq_false e,cond_false,if_neg (by simp),aE h (le_max hl)]
 ·simp only
  rw[decide_eq_false (by omega),cond_false]
 ·cases l.findIdx? (λr=>decide (r.1=s)) <;> rfl
abbrev Flt:=Int×(Int×Int)
theorem CF{g:GrI}(ok:lS g):p59 N0 (g,())=some (((if 300<g.2.1.length then((6:Int),((2:Int),(g.2.1.length:Int)))else match bh (ft g) 0 g.2.1 with|some p=>(p.1,((2:Int),(p.2:Int)))|none=>((0:Int),((0:Int),(0:Int)))),()),()):=by
 unfold p59
 simp only
 by_cases h3:300<g.2.1.length
 ·rw[decide_eq_true (show(300:Int)<((g.2.1.length:Nat):Int) by omega),cond_true,if_pos h3]
 rw[decide_eq_false (show ¬(300:Int)<((g.2.1.length:Nat):Int) by omega),cond_false,if_neg h3]
 refine(kg g.2.1 (λj=>((((0:Int),((0:Int),(0:Int))),()),((j:Int),()))) (ft g) (λe j=>some (((e,(2,(j:Int))),()),())) (some (((0,(0,0)),()),())) (λj h k=>?_) (λk=>?_) N0 (eB ok.s0)).trans ?_
 ·simp only
  have hs:=ok.s1 _ (List.getElem_mem h)
  rw[decide_eq_true (show(j:Int)<((g.2.1.length:Nat):Int) by omega),cond_true,if_pos (by omega),Int.toNat_natCast,List.getElem?_eq_getElem h]
  simp only
  generalize g.2.1[j]=s at hs
  rw[aa (om hs.1 hs.2)]
  simp only
  cases hn:dK s
  ·rw[xB hn,Bool.not_false,cond_true,if_neg (by omega)]
  rw[Bool.not_true,cond_false]
  refine av ((((0:Int),((0:Int),(0:Int))),()),((g.2.1.take j).any (λx=>decide (x=s))||g.1.any (λr=>decide (r.1=s)),())) (λK=>?_) ?_
  ·rw[if_pos ⟨by omega,by omega,by omega⟩,py _ _ (by omega),aa (Ig (by rw[List.length_take];have:=ok.s0;omega) s)]
   simp only
   cases(g.2.1.take j).any (λx=>decide (x=s))
   ·rw[cond_false,aa (Ih ok.r0 s)]
    simp only
    rw[CE,Bool.false_or]
   ·rw[cond_true,Bool.true_or]
  ·simp only
   cases h2:((g.2.1.take j).any (λx=>decide (x=s))||g.1.any (λr=>decide (r.1=s)))
   ·rw[xC hn h2,cond_false,if_pos rfl,aE h (le_max ok.s0)]
   ·rw[qZ hn h2,cond_true,if_neg (by omega)]
 ·simp only
  rw[decide_eq_false (by omega),cond_false]
 ·cases bh (ft g) 0 g.2.1 <;> rfl
theorem Ii{g:GrI}(ok:lS g){i:Nat}{s:List Int}(hi:g.2.1[i]?=some s):p36 N0 (g,((i:Int),()))=some ((ft g i s,()),()):=by
 have hlt:i<g.2.1.length:=(List.getElem?_eq_some_iff.1 hi).1
 have hs:=ok.s1 _ (List.mem_of_getElem? hi)
 have h0:=ok.s0
 unfold p36
 simp only
 rw[if_pos (by omega),Int.toNat_natCast,hi]
 simp only
 rw[aa (vL hs.1 hs.2)]
 simp only
 cases hn:dK s
 ·rw[xB hn,Bool.not_false,cond_true]
 rw[Bool.not_true,cond_false]
 have hlen:(g.2.1.take i).length=i:=by rw[List.length_take];omega
 refine(dg (g.2.1.take i) (λx=>!decide (x=s)) (some ((9,()),())) (if g.1.any (λr=>decide (r.1=s))=true then some ((9,()),())else some ((0,()),())) (λj=>((),((j:Int),()))) (λj h k=>?_) (λk=>?_) N0 (by rw[hlen];exact eB (by omega))).trans ?_
 ·simp only
  rw[decide_eq_true (show(j:Int)<(i:Int) by omega),cond_true,if_pos (by omega),Int.toNat_natCast,List.getElem?_eq_getElem (show j<g.2.1.length by omega)]
  simp only
  rw[if_pos (show(0:Int)<=(i:Int) by omega)]
  rw[List.getElem_take]
  by_cases e:g.2.1[j]=s
  ·rw[decide_eq_true e,cond_true,if_neg (by simp)]
  ·rw[decide_eq_false e,cond_false,if_pos (by simp),aE (show j<g.2.1.length by omega) (le_max h0)]
 ·simp only
  rw[hlen,decide_eq_false (by omega),cond_false]
  refine(dg g.1 (λr=>!decide (r.1=s)) (some ((9,()),())) (some ((0,()),())) (λj=>((),((j:Int),()))) (λj h k=>?_) (λk=>?_) N0 (eB ok.r0)).trans ?_
  ·simp only
   rw[decide_eq_true (show(j:Int)<((g.1.length:Nat):Int) by omega),cond_true,if_pos (by omega),Int.toNat_natCast,List.getElem?_eq_getElem h]
   simp only
   rw[if_pos (show(0:Int)<=(i:Int) by omega)]
   by_cases e:g.1[j].1=s
   ·rw[decide_eq_true e,cond_true,if_neg (by simp)]
   ·rw[decide_eq_false e,cond_false,if_pos (by simp),aE h (le_max ok.r0)]
  ·simp only
   rw[decide_eq_false (by omega),cond_false]
  ·have:g.1.all (λr=>!decide (r.1=s))=!g.1.any (λr=>decide (r.1=s)):=by rw[List.not_any_eq_all_not]
   rw[this]
   cases g.1.any (λr=>decide (r.1=s)) <;> rfl
 ·have h1:(g.2.1.take i).all (λr=>!decide (r=s))=!(g.2.1.take i).any (λr=>decide (r=s)):=by rw[List.not_any_eq_all_not]
  rw[h1]
  cases h2:(g.2.1.take i).any (λr=>decide (r=s))
  ·rw[Bool.not_false,if_pos rfl]
   cases h3:g.1.any (λr=>decide (r.1=s))
   ·rw[xC hn (by rw[h2,h3];rfl),if_neg (by simp)]
   ·rw[qZ hn (by rw[h2,h3];rfl),if_pos rfl]
  ·rw[qZ hn (by rw[h2];rfl),Bool.not_true,if_neg (by simp)]
end
noncomputable section
def kX(h:Int):Bool:=decide (0<=h/\h<=3)
def tZ(g:GrI)(p:PrI):Int:=if ¬p.2.2.2.2.1=-1/\dL g (false,p.2.2.2.2.1)=false then 11 else if p.2.2.2.1=true/\jt p=false then 15 else 0
def ua(g:GrI)(p:PrI):Int:=if p.2.2.2.2.2.all kX=true then tZ g p else 1
def ub(g:GrI)(p:PrI):Int:=if p.2.2.1.all (dL g)=true then ua g p else 11
def gu(g:GrI)(i:Nat)(p:PrI):Int:=
 if p.1<0\/(g.2.1.length:Int)<=p.1 then 11 else if dK p.2.1=false then 8 else if 12<p.2.2.1.length then 6 else if ¬p.2.2.2.2.2.length=p.2.2.1.length-1 then 1
 else if(g.2.2.1.take i).all (λq=>!decide (q.2.1=p.2.1))=true then ub g p else 9
theorem zD{g:GrI}{n:Int}(h:n<0):dL g (false,n)=false:=by
 unfold dL
 rw[if_neg (by simp),decide_eq_false (by omega),Bool.false_and]
theorem pA{n:Nat}(h:n<=100000):IntKind.wrap .i64 ((n:Int)-1)=(n:Int)-1:=bc (by omega) (by omega)
theorem CG{g:GrI}(ok:lS g){i:Nat}{p:PrI}(hi:g.2.2.1[i]?=some p):p60 N0 (g,((i:Int),()))=some ((gu g i p,()),()):=by
 have hlt:i<g.2.2.1.length:=(List.getElem?_eq_some_iff.1 hi).1
 have hm:=List.mem_of_getElem? hi
 have hs:=ok.p1 _ hm
 have hb:=ok.p2 _ hm
 have hh:=ok.p3 _ hm
 have h0:=ok.p0
 have hlen:(g.2.2.1.take i).length=i:=by rw[List.length_take];omega
 unfold p60
 simp only
 rw[if_pos (by omega),Int.toNat_natCast,hi]
 simp only
 refine av ((),(decide (p.1<0\/(g.2.1.length:Int)<=p.1),())) (λK=>?_) ?_
 ·by_cases q1:p.1<0
  ·rw[decide_eq_true q1,cond_true,decide_eq_true (.inl q1)]
  ·rw[decide_eq_false q1,cond_false]
   have:decide (p.1<0\/(g.2.1.length:Int)<=p.1)=decide ((g.2.1.length:Int)<=p.1):=by rw[decide_eq_decide];exact⟨λh=>h.resolve_left q1,.inr⟩
   rw[this]
 simp only
 unfold gu
 by_cases e1:p.1<0\/(g.2.1.length:Int)<=p.1
 ·rw[decide_eq_true e1,cond_true,if_pos e1]
 rw[decide_eq_false e1,cond_false,if_neg e1,aa (om hs.1 hs.2)]
 simp only
 cases e2:dK p.2.1
 ·rw[Bool.not_false,cond_true,if_pos rfl]
 rw[Bool.not_true,cond_false,if_neg (show ¬(true=false) by simp)]
 by_cases e3:12<p.2.2.1.length
 ·rw[decide_eq_true (show(12:Int)<((p.2.2.1.length:Nat):Int) by omega),cond_true,if_pos e3]
 rw[decide_eq_false (show ¬(12:Int)<((p.2.2.1.length:Nat):Int) by omega),cond_false,if_neg e3,pA hb]
 have hw:(if((p.2.2.1.length:Nat):Int)-1<0 then(0:Int)else((p.2.2.1.length:Nat):Int)-1)=((p.2.2.1.length-1:Nat):Int):=by split <;> omega
 rw[hw]
 by_cases e4:p.2.2.2.2.2.length=p.2.2.1.length-1
 case neg=>rw[decide_eq_false (show ¬((p.2.2.2.2.2.length:Nat):Int)=((p.2.2.1.length-1:Nat):Int) by omega),Bool.not_false,cond_true,if_pos e4]
 rw[decide_eq_true (show((p.2.2.2.2.2.length:Nat):Int)=((p.2.2.1.length-1:Nat):Int) by omega),Bool.not_true,cond_false,if_neg (show ¬¬p.2.2.2.2.2.length=p.2.2.1.length-1 from λh=>h e4)]
 rw[if_pos ⟨by omega,by omega,by omega⟩,py _ _ (by omega)]
 refine dg (g.2.2.1.take i) (λq=>!decide (q.2.1=p.2.1)) (some ((9,()),())) (some ((ub g p,()),())) (λj=>((),((j:Int),()))) (λj h k=>?_) (λk=>?_) N0 (by rw[hlen];exact eB (by omega)) |>.trans ?_
 ·simp only
  rw[decide_eq_true (show(j:Int)<(((g.2.2.1.take i).length:Nat):Int) by omega),cond_true,if_pos (by omega),Int.toNat_natCast,List.getElem?_eq_getElem h]
  simp only
  by_cases e:(g.2.2.1.take i)[j].2.1=p.2.1
  ·rw[decide_eq_true e,cond_true,if_neg (by simp)]
  ·rw[decide_eq_false e,cond_false,if_pos (by simp),aE h (le_max (by omega))]
 ·simp only
  rw[decide_eq_false (by omega),cond_false]
  refine dg p.2.2.1 (dL g) (some ((11,()),())) (some ((ua g p,()),())) (λj=>((),((j:Int),()))) (λj h k=>?_) (λk=>?_) N0 (eB hb) |>.trans ?_
  ·simp only
   rw[decide_eq_true (show(j:Int)<((p.2.2.1.length:Nat):Int) by omega),cond_true,if_pos (by omega),Int.toNat_natCast,List.getElem?_eq_getElem h]
   simp only
   rw[aa (vO g _)]
   simp only
   cases dL g p.2.2.1[j]
   ·rw[Bool.not_false,cond_true,if_neg (by simp)]
   ·rw[Bool.not_true,cond_false,if_pos rfl,aE h (le_max hb)]
  ·simp only
   rw[decide_eq_false (by omega),cond_false]
   refine dg p.2.2.2.2.2 kX (some ((1,()),())) (some ((tZ g p,()),())) (λj=>((),((j:Int),()))) (λj h k=>?_) (λk=>?_) N0 (eB hh) |>.trans ?_
   ·simp only
    rw[decide_eq_true (show(j:Int)<((p.2.2.2.2.2.length:Nat):Int) by omega),cond_true,if_pos (by omega),Int.toNat_natCast,List.getElem?_eq_getElem h]
    simp only
    generalize p.2.2.2.2.2[j]=v
    refine av ((),(!kX v,())) (λK=>?_) ?_
    ·unfold kX
     by_cases q1:v<0
     ·rw[decide_eq_true q1,cond_true,decide_eq_false (by omega)];rfl
     ·rw[decide_eq_false q1,cond_false]
      have:(!decide (0<=v/\v<=3))=decide (3<v):=by
       rw[<-decide_not,decide_eq_decide];omega
      rw[this]
    ·simp only
     cases kX v
     ·rw[Bool.not_false,cond_true,if_neg (by simp)]
     ·rw[Bool.not_true,cond_false,if_pos rfl,aE h (le_max hh)]
   ·simp only
    rw[decide_eq_false (by omega),cond_false]
    unfold tZ
    refine av ((),(decide (¬p.2.2.2.2.1=-1/\dL g (false,p.2.2.2.2.1)=false),())) (λK=>?_) ?_
    ·by_cases q1:p.2.2.2.2.1=-1
     ·rw[decide_eq_true q1,Bool.not_true,cond_false,decide_eq_false (λh=>h.1 q1)]
     ·rw[decide_eq_false q1,Bool.not_false,cond_true]
      by_cases q2:p.2.2.2.2.1<0
      ·rw[decide_eq_true q2,cond_true,decide_eq_true ⟨q1,zD q2⟩]
      ·rw[decide_eq_false q2,cond_false,aa (vO g _)]
       simp only
       cases dL g (false,p.2.2.2.2.1)
       ·rw[decide_eq_true ⟨q1,rfl⟩];rfl
       ·rw[decide_eq_false (λh=>by cases h.2)];rfl
    ·simp only
     by_cases q1:¬p.2.2.2.2.1=-1/\dL g (false,p.2.2.2.2.1)=false
     ·rw[decide_eq_true q1,cond_true,if_pos q1]
     rw[decide_eq_false q1,cond_false,if_neg q1]
     refine av ((),(decide (p.2.2.2.1=true/\jt p=false),())) (λK=>?_) ?_
     ·cases hp:p.2.2.2.1
      ·rw[cond_false,decide_eq_false (λh=>by cases h.1)]
      ·rw[cond_true,aa (Ic p)]
       simp only
       cases jt p <;> simp
     ·simp only
      by_cases q2:p.2.2.2.1=true/\jt p=false
      ·rw[decide_eq_true q2,cond_true,if_pos q2]
      ·rw[decide_eq_false q2,cond_false,if_neg q2]
   ·unfold ua;split <;> rfl
  ·unfold ub;split <;> rfl
 ·split <;> rfl
theorem Ij{g:GrI}(ok:lS g){i:Nat}{p:PrI}(hi:g.2.2.1[i]?=some p):p37 N0 (g,((i:Int),()))=some ((gu g i p,()),()):=by
 have hlt:i<g.2.2.1.length:=(List.getElem?_eq_some_iff.1 hi).1
 have hm:=List.mem_of_getElem? hi
 have hs:=ok.p1 _ hm
 have hb:=ok.p2 _ hm
 have hh:=ok.p3 _ hm
 have h0:=ok.p0
 have hlen:(g.2.2.1.take i).length=i:=by rw[List.length_take];omega
 unfold p37
 simp only
 rw[if_pos (by omega),Int.toNat_natCast,hi]
 simp only
 refine av ((),(decide (p.1<0\/(g.2.1.length:Int)<=p.1),())) (λK=>?_) ?_
 ·by_cases q1:p.1<0
  ·rw[decide_eq_true q1,cond_true,decide_eq_true (.inl q1)]
  ·rw[decide_eq_false q1,cond_false]
   have:decide (p.1<0\/(g.2.1.length:Int)<=p.1)=decide ((g.2.1.length:Int)<=p.1):=by rw[decide_eq_decide];exact⟨λh=>h.resolve_left q1,.inr⟩
   rw[this]
 simp only
 unfold gu
 by_cases e1:p.1<0\/(g.2.1.length:Int)<=p.1
 ·rw[decide_eq_true e1,cond_true,if_pos e1]
 rw[decide_eq_false e1,cond_false,if_neg e1,aa (vL hs.1 hs.2)]
 simp only
 cases e2:dK p.2.1
 ·rw[Bool.not_false,cond_true,if_pos rfl]
 rw[Bool.not_true,cond_false,if_neg (show ¬(true=false) by simp)]
 by_cases e3:12<p.2.2.1.length
 ·rw[decide_eq_true (show(12:Int)<((p.2.2.1.length:Nat):Int) by omega),cond_true,if_pos e3]
 rw[decide_eq_false (show ¬(12:Int)<((p.2.2.1.length:Nat):Int) by omega),cond_false,if_neg e3,pA hb]
 have hw:(if(0:Int)<((p.2.2.1.length:Nat):Int)-1 then((p.2.2.1.length:Nat):Int)-1 else(0:Int))=((p.2.2.1.length-1:Nat):Int):=by split <;> omega
 rw[hw]
 by_cases e4:p.2.2.2.2.2.length=p.2.2.1.length-1
 case neg=>rw[decide_eq_false (show ¬((p.2.2.2.2.2.length:Nat):Int)=((p.2.2.1.length-1:Nat):Int) by omega),Bool.not_false,cond_true,if_pos e4]
 rw[decide_eq_true (show((p.2.2.2.2.2.length:Nat):Int)=((p.2.2.1.length-1:Nat):Int) by omega),Bool.not_true,cond_false,if_neg (show ¬¬p.2.2.2.2.2.length=p.2.2.1.length-1 from λh=>h e4)]
 refine dg (g.2.2.1.take i) (λq=>!decide (q.2.1=p.2.1)) (some ((9,()),())) (some ((ub g p,()),())) (λj=>((),((j:Int),()))) (λj h k=>?_) (λk=>?_) N0 (by rw[hlen];exact eB (by omega)) |>.trans ?_
 ·simp only
  rw[decide_eq_true (show(j:Int)<(i:Int) by omega),cond_true,if_pos (by omega),Int.toNat_natCast,List.getElem?_eq_getElem (show j<g.2.2.1.length by omega)]
  simp only
  rw[List.getElem_take]
  by_cases e:g.2.2.1[j].2.1=p.2.1
  ·rw[decide_eq_true e,cond_true,if_neg (by simp)]
  ·rw[decide_eq_false e,cond_false,if_pos (by simp),aE h (le_max (by omega))]
 ·simp only
  rw[hlen,decide_eq_false (by omega),cond_false]
  refine dg p.2.2.1 (dL g) (some ((11,()),())) (some ((ua g p,()),())) (λj=>((),((j:Int),()))) (λj h k=>?_) (λk=>?_) N0 (eB hb) |>.trans ?_
  ·simp only
   rw[decide_eq_true (show(j:Int)<((p.2.2.1.length:Nat):Int) by omega),cond_true,if_pos (by omega),Int.toNat_natCast,List.getElem?_eq_getElem h]
   simp only
   rw[aa (vP g _)]
   simp only
   cases dL g p.2.2.1[j]
   ·rw[Bool.not_false,cond_true,if_neg (by simp)]
   ·rw[Bool.not_true,cond_false,if_pos rfl,aE h (le_max hb)]
  ·simp only
   rw[decide_eq_false (by omega),cond_false]
   refine dg p.2.2.2.2.2 kX (some ((1,()),())) (some ((tZ g p,()),())) (λj=>((),((j:Int),()))) (λj h k=>?_) (λk=>?_) N0 (eB hh) |>.trans ?_
   ·simp only
    rw[decide_eq_true (show(j:Int)<((p.2.2.2.2.2.length:Nat):Int) by omega),cond_true]
    have hg:p.2.2.2.2.2[((j:Int)).toNat]?=some p.2.2.2.2.2[j]:=by rw[Int.toNat_natCast];exact List.getElem?_eq_getElem h
    rw[hg]
    generalize p.2.2.2.2.2[j]=v
    simp only
    refine av ((),(!kX v,())) (λK=>?_) ?_
    ·rw[if_pos (by omega)]
     unfold kX
     by_cases q1:v<0
     ·rw[decide_eq_true q1,cond_true,decide_eq_false (by omega)];rfl
     ·rw[decide_eq_false q1,cond_false]
      have:(!decide (0<=v/\v<=3))=decide (3<v):=by
       rw[<-decide_not,decide_eq_decide];omega
      rw[this,if_pos (by omega)]
    ·simp only
     cases kX v
     ·rw[Bool.not_false,cond_true,if_neg (by simp)]
     ·rw[Bool.not_true,cond_false,if_pos rfl,aE h (le_max hh)]
   ·simp only
    rw[decide_eq_false (by omega),cond_false]
    unfold tZ
    refine av ((),(decide (¬p.2.2.2.2.1=-1/\dL g (false,p.2.2.2.2.1)=false),())) (λK=>?_) ?_
    ·by_cases q1:p.2.2.2.2.1=-1
     ·rw[decide_eq_true q1,Bool.not_true,cond_false,decide_eq_false (λh=>h.1 q1)]
     ·rw[decide_eq_false q1,Bool.not_false,cond_true,aa (vP g _)]
      simp only
      cases dL g (false,p.2.2.2.2.1)
      ·rw[decide_eq_true ⟨q1,rfl⟩];rfl
      ·rw[decide_eq_false (λh=>by cases h.2)];rfl
    ·simp only
     by_cases q1:¬p.2.2.2.2.1=-1/\dL g (false,p.2.2.2.2.1)=false
     ·rw[decide_eq_true q1,cond_true,if_pos q1]
     rw[decide_eq_false q1,cond_false,if_neg q1]
     refine av ((),(decide (p.2.2.2.1=true/\jt p=false),())) (λK=>?_) ?_
     ·cases hp:p.2.2.2.1
      ·rw[cond_false,decide_eq_false (λh=>by cases h.1)]
      ·rw[cond_true,aa (Ie p)]
       simp only
       cases jt p <;> simp
     ·simp only
      by_cases q2:p.2.2.2.1=true/\jt p=false
      ·rw[decide_eq_true q2,cond_true,if_pos q2]
      ·rw[decide_eq_false q2,cond_false,if_neg q2]
   ·unfold ua;split <;> rfl
  ·unfold ub;split <;> rfl
 ·split <;> rfl
end
noncomputable section
def ahead(g:GrI)(i:Nat):List Int:=(g.2.2.2.1.take i).flatMap λl=>l.2
theorem oo{g:GrI}{i:Nat}{l:LvI}(h:g.2.2.2.1[i]?=some l):ahead g (i+1)=ahead g i++l.2:=by
 unfold ahead
 rw[List.take_add_one,h]
 simp
def oq(g:GrI)(i:Nat)(l:LvI)(k:Nat)(r:Int):Int:=
 if dL g (false,r)=false then 11 else if r∈ahead g i++l.2.take k then 9 else 0
def kh(g:GrI)(i:Nat)(l:LvI):Int:=
 if l.1<1\/3<l.1\/l.2.length=0\/60<=i then 1 else match bh (oq g i l) 0 l.2 with|some p=>p.1|none=>0
abbrev IM:=List (Int×Int)
def eqZ:Int->Int->Bool:=λa b=>decide (a=b)
theorem zE(k k' v:Int):∀ x:IM,bx eqZ k (dm eqZ k' v x)=if k=k' then v else bx eqZ k x:=by
 intro x
 induction x with
 |nil=>
  simp only[dm,bx,eqZ]
  by_cases e:k=k' <;> simp[e]
 |cons p r ih=>
  simp only[dm]
  by_cases e:k'=p.1
  ·have:eqZ k' p.1=true:=decide_eq_true e
   rw[this,cond_true]
   simp only[bx]
   rw[<-e]
   by_cases e2:k=k'
   ·rw[show eqZ k k'=true from decide_eq_true e2,if_pos e2];rfl
   ·rw[show eqZ k k'=false from decide_eq_false e2,if_neg e2];rfl
  ·have:eqZ k' p.1=false:=decide_eq_false e
   rw[this,cond_false]
   simp only[bx]
   by_cases e2:k=p.1
   ·rw[show eqZ k p.1=true from decide_eq_true e2,cond_true,cond_true]
    rw[if_neg]
    rintro rfl
    exact e e2
   ·rw[show eqZ k p.1=false from decide_eq_false e2,cond_false,cond_false,ih]
def uc(L:List Int)(m:IM):Prop:=∀ k,bx eqZ k m=if k∈L then 1 else 0
theorem uc.next{L:List Int}{m:IM}(h:uc L m){r:Int}(hr:¬r∈L):uc (L++[r]) (dm eqZ r (IntKind.wrap .i64 (bx eqZ r m+1)) m):=by
 intro k
 rw[zE,h r,if_neg hr]
 by_cases e:k=r
 ·subst e;simp;rfl
 ·rw[if_neg e,h k];simp[e]
theorem xD{α A R:Type}{body:A->(A->Option R)->Option R}(l:List α)(I:Nat->A->Prop)(spec:Nat->Option R)
 (step:∀ j,(h:j<l.length)->∀ x,I j x->∀ k,(∀ y,I (j+1) y->k y=spec (j+1))->body x k=spec j) (fin:∀ x,I l.length x->∀ k,body x k=spec l.length):
 ∀ n j x,j<=l.length->l.length-j<n->I j x->aq body n x=spec j:=by
 intro n
 induction n with
 |zero=>intro j x _ h;omega
 |succ n ih=>
  intro j x hj hn hi
  rw[bP]
  rcases Nat.lt_or_ge j l.length with h|h
  ·exact step j h x hi _ (λy hy=>ih (j+1) y h (by omega) hy)
  ·have:j=l.length:=by omega
   subst this
   exact fin x hi _
theorem CH{g:GrI}(ok:lS g):p61 N0 (g,())=some (((match bh (kh g) 0 g.2.2.2.1 with|some p=>(p.1,((4:Int),(p.2:Int)))|none=>((0:Int),((0:Int),(0:Int)))),()),()):=by
 unfold p61
 simp only
 rw[show(λ(a b:Int)=>decide (a=b))=eqZ from rfl]
 refine(xD g.2.2.2.1 (λj x=>∃ m:IM,x=((((0:Int),((0:Int),(0:Int))),(m,())),((j:Int),()))/\uc (ahead g j) m) (λj=>some (((match bh (kh g) j (g.2.2.2.1.drop j)with|some p=>(p.1,((4:Int),(p.2:Int)))|none=>((0:Int),((0:Int),(0:Int)))),()),())) (λj h x hx k hk=>?_) (λx hx k=>?_) N0 0 _ (Nat.zero_le _) (by rw[Nat.sub_zero];exact eB ok.l0) ⟨[],rfl,λk=>by simp[bx,ahead]⟩).trans (by rw[List.drop_zero])
 ·obtain⟨m,rfl,hm⟩:=hx
  simp only
  have hl:=ok.l1 _ (List.getElem_mem h)
  have hg:g.2.2.2.1[j]?=some g.2.2.2.1[j]:=List.getElem?_eq_getElem h
  rw[decide_eq_true (show(j:Int)<((g.2.2.2.1.length:Nat):Int) by omega),cond_true,if_pos (by omega),Int.toNat_natCast,hg,List.drop_eq_getElem_cons h]
  generalize g.2.2.2.1[j]=l at hl hg
  simp only
  refine av ((((0:Int),((0:Int),(0:Int))),(m,())),(decide (l.1<1\/3<l.1\/l.2.length=0\/60<=j),())) (λK=>?_) ?_
  ·by_cases q1:l.1<1
   ·rw[decide_eq_true q1,cond_true,decide_eq_true (.inl q1)]
   rw[decide_eq_false q1,cond_false]
   by_cases q2:3<l.1
   ·rw[decide_eq_true q2,cond_true,decide_eq_true (.inr (.inl q2))]
   rw[decide_eq_false q2,cond_false]
   by_cases q3:l.2.length=0
   ·rw[decide_eq_true (show((l.2.length:Nat):Int)=0 by omega),cond_true,decide_eq_true (.inr (.inr (.inl q3)))]
   rw[decide_eq_false (show ¬((l.2.length:Nat):Int)=0 by omega),cond_false]
   have:decide ((60:Int)<=(j:Int))=decide (l.1<1\/3<l.1\/l.2.length=0\/60<=j):=by rw[decide_eq_decide];omega
   rw[this]
  ·simp only
   simp only[bh]
   by_cases q:l.1<1\/3<l.1\/l.2.length=0\/60<=j
   ·have e1:kh g j l=1:=by unfold kh;rw[if_pos q]
    rw[decide_eq_true q,cond_true,e1,if_neg (by omega)]
   have e1:kh g j l=match bh (oq g j l) 0 l.2 with|some p=>p.1|none=>0:=by unfold kh;rw[if_neg q]
   rw[decide_eq_false q,cond_false]
   have hz:∀ k,oq g j l k=λr=>oq g j l k r:=λ_=>rfl
   refine(xD l.2 (λi x=>∃ m:IM,x=((((0:Int),((0:Int),(0:Int))),(m,())),((i:Int),()))/\uc (ahead g j++l.2.take i) m) (λi=>match bh (oq g j l) i (l.2.drop i)with|some p=>some (((p.1,((4:Int),(j:Int))),()),())|none=>some (((match bh (kh g) (j+1) (g.2.2.2.1.drop (j+1))with|some p=>(p.1,((4:Int),(p.2:Int)))|none=>((0:Int),((0:Int),(0:Int)))),()),())) (λi hi x hx k2 hk2=>?_) (λx hx k2=>?_) N0 0 _ (Nat.zero_le _) (by rw[Nat.sub_zero];exact eB hl) ⟨m,rfl,by rw[List.take_zero,List.append_nil];exact hm⟩).trans ?_
   ·obtain⟨m,rfl,hm⟩:=hx
    simp only
    have hgi:l.2[i]?=some l.2[i]:=List.getElem?_eq_getElem hi
    have htk:l.2.take (i+1)=l.2.take i++[l.2[i]]:=by rw[List.take_add_one,hgi];rfl
    rw[decide_eq_true (show(i:Int)<((l.2.length:Nat):Int) by omega),cond_true,if_pos (by omega),Int.toNat_natCast,hgi,List.drop_eq_getElem_cons hi]
    generalize l.2[i]=r at htk
    simp only
    rw[aa (vO g _)]
    simp only[bh]
    unfold oq
    cases hs:dL g (false,r)
    ·rw[Bool.not_false,cond_true,if_pos rfl,if_neg (by omega)]
    rw[Bool.not_true,cond_false,if_neg (show ¬(true=false) by simp),hm r]
    by_cases hr:r∈ahead g j++l.2.take i
    ·rw[if_pos hr,if_pos hr,show decide ((0:Int)<1)=true from rfl,cond_true,if_neg (by omega)]
    ·rw[if_neg hr,if_neg hr,show decide ((0:Int)<0)=false from rfl,cond_false,if_pos rfl,aE hi (le_max hl)]
     have hn:=hm.next hr
     rw[hm r,if_neg hr]at hn
     exact hk2 _ ⟨_,rfl,by rw[htk,<-List.append_assoc];exact hn⟩
   ·obtain⟨m,rfl,hm⟩:=hx
    simp only
    rw[decide_eq_false (by omega),cond_false,aE h (le_max ok.l0),List.drop_length]
    simp only[bh]
    rw[List.take_length]at hm
    exact hk _ ⟨m,rfl,by rw[oo hg];exact hm⟩
   ·rw[List.drop_zero]
    rw[e1]
    have hne:∀ (l':List Int) (i:Nat) (p:Int×Nat),bh (oq g j l) i l'=some p->¬p.1=0:=by
     intro l'
     induction l' with
     |nil=>intro i p h;cases h
     |cons a r ih=>
      intro i p h
      simp only[bh]at h
      split at h
      ·exact ih _ _ h
      ·rename_i hn;injection h with h;rw[<-h];exact hn
    cases hf:bh (oq g j l) 0 l.2 with
    |none=>simp only[if_true]
    |some p=>
     simp only
     rw[if_neg (hne _ _ _ hf)]
 ·obtain⟨m,rfl,hm⟩:=hx
  simp only
  rw[decide_eq_false (by omega),cond_false,List.drop_length]
  rfl
end
end Go.Proofs.YthalkfdkbalpmaaGreat.Rf
